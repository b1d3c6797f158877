/- Texts put together: ShItoa, FmT, ShIdx, CutO, ShAtoi, PrT. -/
import Derived.Shelf.Strconv.Itoa3
import Derived.Test.YtbkiedhaacapbaaDoorMTours01
import Derived.Test.YtbkiedhaacapbaaDoorMTours05
import Derived.Test.YtbkiedhaacapbaaDoorMTours09
import Derived.Laws.Concat
import Derived.Shelf.Strings.Search2
import Derived.Shelf.RegionOpenPlain
import Derived.Shelf.Strconv.Atoi
import Derived.Lib.AtoiErrMem
namespace Go.Proofs.YtbkiedhaacapbaaDoor
open Go.Shelf
def lays171_ren : Go.Shelf.Ren := ⟨fun | 171 => 89 | 243 => 100 | 246 => 107 | 283 => 117 | 284 => 118 | 285 => 119 | 286 => 120 | 129 => 127 | 317 => 126 | 318 => 128 | 319 => 129 | 320 => 130 | 337 => 133 | 338 => 134 | n => n, fun | 3 => 3 | 9 => 9 | 2 => 2 | 4 => 4 | 171 => 121 | 0 => 0 | 53 => 99 | 37 => 22 | 5 => 5 | 173 => 123 | 212 => 134 | 51 => 97 | 20 => 20 | 213 => 135 | 46 => 78 | 232 => 142 | 233 => 143 | n => n, fun | 17 => 3 | 18 => 4 | 19 => 5 | n => n⟩
theorem lays171 : Go.Proofs.Lays.n171 Tryd.prog lays171_ren := {
  mixed := by kernel_rfl
  f129 := Tryd.func127.trans (congrArg some (by kernel_rfl))
  f171 := Tryd.func89.trans (congrArg some (by kernel_rfl))
  f243 := Tryd.func100.trans (congrArg some (by kernel_rfl))
  f246 := Tryd.func107.trans (congrArg some (by kernel_rfl))
  f283 := Tryd.func117.trans (congrArg some (by kernel_rfl))
  f284 := Tryd.func118.trans (congrArg some (by kernel_rfl))
  f285 := Tryd.func119.trans (congrArg some (by kernel_rfl))
  f286 := Tryd.func120.trans (congrArg some (by kernel_rfl))
  f317 := Tryd.func126.trans (congrArg some (by kernel_rfl))
  f318 := Tryd.func128.trans (congrArg some (by kernel_rfl))
  f319 := Tryd.func129.trans (congrArg some (by kernel_rfl))
  f320 := Tryd.func130.trans (congrArg some (by kernel_rfl))
  f337 := Tryd.func133.trans (congrArg some (by kernel_rfl))
  f338 := Tryd.func134.trans (congrArg some (by kernel_rfl))
  t0 := Tryd.underlying0
  a0 := Tryd.isAgg0
  z0 := Tryd.sizeOf0
  v0 := Tryd.zeroValue0
  t2 := Tryd.underlying2
  a2 := Tryd.isAgg2
  z2 := Tryd.sizeOf2
  v2 := Tryd.zeroValue2
  t3 := Tryd.underlying3
  a3 := Tryd.isAgg3
  z3 := Tryd.sizeOf3
  v3 := Tryd.zeroValue3
  t4 := Tryd.underlying4
  a4 := Tryd.isAgg4
  z4 := Tryd.sizeOf4
  v4 := Tryd.zeroValue4
  t5 := Tryd.underlying5
  a5 := Tryd.isAgg5
  z5 := Tryd.sizeOf5
  v5 := Tryd.zeroValue5
  t9 := Tryd.underlying9
  a9 := Tryd.isAgg9
  z9 := Tryd.sizeOf9
  v9 := Tryd.zeroValue9
  t20 := Tryd.underlying20
  a20 := Tryd.isAgg20
  z20 := Tryd.sizeOf20
  v20 := Tryd.zeroValue20
  t37 := Tryd.underlying22
  a37 := Tryd.isAgg22
  z37 := Tryd.sizeOf22
  v37 := Tryd.zeroValue22
  t46 := Tryd.underlying78
  a46 := Tryd.isAgg78
  z46 := Tryd.sizeOf78
  v46 := Tryd.zeroValue78
  t51 := Tryd.underlying97
  a51 := Tryd.isAgg97
  z51 := Tryd.sizeOf97
  v51 := Tryd.zeroValue97
  t53 := Tryd.underlying99
  a53 := Tryd.isAgg99
  z53 := Tryd.sizeOf99
  v53 := Tryd.zeroValue99
  t171 := Tryd.underlying121
  a171 := Tryd.isAgg121
  z171 := Tryd.sizeOf121
  v171 := Tryd.zeroValue121
  t173 := Tryd.underlying123
  a173 := Tryd.isAgg123
  z173 := Tryd.sizeOf123
  v173 := Tryd.zeroValue123
  t212 := Tryd.underlying134
  a212 := Tryd.isAgg134
  z212 := Tryd.sizeOf134
  v212 := Tryd.zeroValue134
  t213 := Tryd.underlying135
  a213 := Tryd.isAgg135
  z213 := Tryd.sizeOf135
  t232 := Tryd.underlying142
  a232 := Tryd.isAgg142
  z232 := Tryd.sizeOf142
  v232 := Tryd.zeroValue142
  t233 := Tryd.underlying143
  a233 := Tryd.isAgg143
  z233 := Tryd.sizeOf143
  v233 := Tryd.zeroValue143
  g17 := by kernel_rfl
  g18 := by kernel_rfl
  g19 := by kernel_rfl }
open Go.RowKit Go.Sort Go.Lib in
theorem strconv_Itoa_small (i : Nat) (hi : i < 100) (w : World) :
    Calls Tryd.prog 89 #[.int .i64 i] w fun e w' => e = .returned (.string ⟨(Lib.decDigits i).toArray⟩) ∧ w' = w := Any.strconv_Itoa_small lays171 i hi w
end Go.Proofs.YtbkiedhaacapbaaDoor

namespace Go.Proofs.YtbkiedhaacapbaaDoor
open Go.RowKit Go.Sort
set_option maxRecDepth 100000
variable {n : Nat} {xs : List Int} {sl : Value} {w : World}
set_option maxHeartbeats 1000000 in
theorem fmtInt_any (i : Nat) (hi : i < 10) (w : World) : Calls Tryd.prog 59 #[.int .i64 i] w fun e w' => e = .returned (.string ⟨[UInt8.ofNat (48 + i)].toArray⟩) ∧ w = w' := by
  have hd : Lib.decDigits i = [UInt8.ofNat (48 + i)] := by rw [Lib.decDigits, dif_pos hi]
  have HC := Lib.hid (strconv_Itoa_small i (by omega) w)
  rw [hd] at HC
  clear hd
  generalize UInt8.ofNat (48 + i) = c at *
  go_enter Tryd.func59, Tryd.ntmps59
  go_wp2_with fail
  refine HC.out.mono ?_
  rintro e _ ⟨rfl, rfl⟩
  go_wp2
  go_ret
  exact ⟨rfl, rfl⟩
def fmK (xs : List Int) (n k : Nat) : List UInt8 := UInt8.ofNat (48 + n) :: 58 :: gmL xs n k
theorem fmK_len (xs : List Int) {n k : Nat} (h8 : n ≤ 8) (hk : k ≤ n) : (fmK xs n k).length ≤ 66 := by
  unfold fmK
  rw [List.length_cons, List.length_cons, gmL_len]
  have h1 := gmP_val n k hk
  have h2 : n * k ≤ 8 * 8 := Nat.mul_le_mul h8 (by omega)
  omega
def fmJ (xs : List Int) (n a j : Nat) : List UInt8 := fmK xs n a ++ gmR xs a j
theorem fmJ_succ (xs : List Int) (n a j : Nat) : fmJ xs n a (j + 1) = fmJ xs n a j ++ [gmB xs a (a + 1 + j)] := by
  unfold fmJ
  rw [gmR_succ, List.append_assoc]
theorem fmJ_end (xs : List Int) (n a : Nat) : fmJ xs n a (n - (a + 1)) = fmK xs n (a + 1) := rfl
theorem fmJ_len (xs : List Int) {n a j : Nat} (h8 : n ≤ 8) (ha : a ≤ n) (hj : j ≤ n) : (fmJ xs n a j).length ≤ 80 := by
  unfold fmJ
  have := fmK_len xs h8 ha
  rw [List.length_append, gmR_len]
  omega
theorem gmB_num (xs : List Int) (a b : Nat) : UInt8.ofNat (48 + ((winsN xs a).testBit b).toNat) = gmB xs a b := by
  unfold gmB bt
  cases (winsN xs a).testBit b <;> rfl
theorem add_lists (L M : List UInt8) (hL : L.length ≤ 1000) (hM : M.length ≤ 1000) (w : World) : (Op.stringOp .add ⟨L.toArray⟩ ⟨M.toArray⟩).run Tryd.prog w = .ok (.string ⟨(L ++ M).toArray⟩) w :=
  run_string_add_lists w L M (by omega) (by omega)
set_option maxHeartbeats 4000000 in
theorem cFormat (hp : tourP n xs) (h : Rd w sl xs) : Calls Tryd.prog 24 #[.agg #[.int .i64 n, sl]] w fun e w' => e = .returned (.string ⟨(fmL xs n).toArray⟩) ∧ Below w.heap.size w w' := by
  have HR := Lib.hid h
  obtain ⟨g, off, c, rfl, hcm, hg, hx⟩ := tour_cells h hp
  unfold maxLen at hcm
  rw [tour_len hp] at HR hx ⊢
  have HX := Lib.hid (fun k (hk : k < n) => (show w.cell? ⟨g, off + k, none⟩ = some (.int .i64 (winsN xs k : Nat)) from by exact hx k hk))
  have HW := Lib.hid (fun k (hk : k < n) => (tour_wins hp (a := k) (by rw [tour_len hp]; exact hk)).2.2)
  have h1 : 1 ≤ n := by have := hp.1; omega
  have h8 : n ≤ 8 := by have := hp.1; omega
  have HP := Lib.hid hp
  clear hp hx h
  go_enter Tryd.func24, Tryd.ntmps24
  go_wp2_with fail
  have b0 := below_alloc1 w (.cells #[.int .i64 n, .slice (some ⟨g, off, none⟩) n c] 25)
  have x0 := TBox.new w n (.slice (some ⟨g, off, none⟩) n c) 25
  generalize w.alloc (.cells #[.int .i64 n, .slice (some ⟨g, off, none⟩) n c] 25) = w0 at *
  have HX0 := Lib.hid x0
  have HB0 := Lib.hid b0
  clear x0 b0
  have y0_0 := HX0.out.1
  have y1_0 := HX0.out.2
  go_wp2_with fail
  refine (implTourOk n _ xs _ (HR.out.below HB0.out)).mono ?_
  rintro e w1 ⟨rfl, hb1⟩
  rw [tourB_true.2 HP.out]
  have HX1 := Lib.hid (HX0.out.below hb1)
  have HB1 := Lib.hid (Below.then HB0.out hb1)
  clear hb1 y0_0 y1_0 HX0 HB0
  have y0 := HX1.out.1
  have y1 := HX1.out.2
  have HXX : Hid (∀ j, j < n → w1.cell? ⟨g, off + j, none⟩ = some (.int .i64 (winsN xs j))) := Lib.hid fun j hj => (HB1.out.cell (p := ⟨g, off + j, none⟩) hg).trans (HX.out j hj)
  go_wp2_with fail
  refine (fmtInt_any n (by omega) w1).mono ?_
  rintro e _ ⟨rfl, rfl⟩
  have hadd := add_lists [UInt8.ofNat (48 + n)] [58] (by simp) (by simp) w1
  have HK0 : Hid (fmK xs n 0 = [UInt8.ofNat (48 + n)] ++ [58]) := Lib.hid rfl
  rw [← HK0.out] at hadd
  generalize [UInt8.ofNat (48 + n)] = L0 at *
  clear HK0
  go_wp2_with fail
  go_loop [3, 15] (fun t3 t15 => ∃ a : Nat, ∃ L : List UInt8, a ≤ n ∧ t15 = .int .i64 a ∧ t3 = .string ⟨L.toArray⟩ ∧ Hid (L = fmK xs n a)) (fun _ t15 => n - (intOf t15).toNat)
  case atStart => exact ⟨0, _, by omega, rfl, rfl, rfl⟩
  case round =>
    obtain ⟨a, L, ha, rfl, rfl, HL⟩ := hrel
    by_cases hlt : a < n
    · have zi := HXX.out a hlt
      have hw := HW.out a hlt
      have HG := Lib.hid (gmB_num xs a)
      generalize winsN xs a = W at *
      go_wp2_with fail
      go_loop [3, 5] (fun t3 t5 => ∃ (j : Nat) (M : List UInt8), a + 1 + j ≤ n ∧ t5 = .int .i64 (a + 1 + j : Nat) ∧ t3 = .string ⟨M.toArray⟩ ∧ Hid (M = fmJ xs n a j)) (fun _ t5 => n - (intOf t5).toNat)
      case atStart => exact ⟨0, _, by omega, by go_num, rfl, by rw [HL.out]; simp [Hid, fmJ, gmR]⟩
      case round =>
        obtain ⟨j, M, hj, rfl, rfl, HM⟩ := hrel
        obtain ⟨b, hb⟩ : ∃ b, b = a + 1 + j := ⟨_, rfl⟩
        have HBE := Lib.hid hb
        rw [← hb] at hj ⊢
        clear hb
        by_cases hltb : b < n
        · have hbn := bit_num W b
          have h01 := toNat_le1 (W.testBit b)
          have HN : Hid (fmJ xs n a (j + 1) = M ++ [UInt8.ofNat (48 + (W.testBit b).toNat)]) := Lib.hid (by rw [fmJ_succ, HM.out, HG.out, HBE.out])
          have hML : M.length ≤ 1000 := by rw [HM.out]; have := fmJ_len xs (n := n) (a := a) (j := j) h8 ha (by have := HBE.out; omega); omega
          generalize (W.testBit b).toNat = t at *
          have hadd := add_lists M [UInt8.ofNat (48 + t)] hML (by simp) w1
          go_wp2_with fail
          refine (fmtInt_any t (by omega) w1).mono ?_
          rintro e _ ⟨rfl, rfl⟩
          generalize [UInt8.ofNat (48 + t)] = T at *
          go_wp2
          go_round
          case rel => exact ⟨j + 1, M ++ T, by have := HBE.out; omega, by rw [show a + 1 + (j + 1) = b + 1 by have := HBE.out; omega]; go_num, rfl, HN.out.symm⟩
          case measure => simp [intOf]; omega
        · obtain rfl : b = n := by omega
          go_wp2
          go_round
          case rel => exact ⟨a + 1, M, by omega, by go_num, rfl, by rw [HM.out, ← fmJ_end]; have := HBE.out; unfold Hid; congr 1; omega⟩
          case measure => simp [intOf]; omega
    · obtain rfl : a = n := by omega
      go_wp2
      go_ret
      exact ⟨by rw [HL.out]; rfl, HB1.out⟩
end Go.Proofs.YtbkiedhaacapbaaDoor

namespace Go.Proofs.YtbkiedhaacapbaaDoor
open Go.Shelf
def lays219_ren : Go.Shelf.Ren := ⟨fun | 219 => 101 | 217 => 108 | 225 => 109 | 224 => 110 | 267 => 111 | 266 => 121 | 314 => 122 | n => n, fun | 9 => 9 | 3 => 3 | 4 => 4 | 5 => 5 | 46 => 78 | 146 => 125 | 51 => 97 | n => n, fun | 1 => 0 | n => n⟩
theorem lays219 : Go.Proofs.Lays.n219 Tryd.prog lays219_ren := {
  mixed := by kernel_rfl
  f217 := Tryd.func108.trans (congrArg some (by kernel_rfl))
  f219 := Tryd.func101.trans (congrArg some (by kernel_rfl))
  f224 := Tryd.func110.trans (congrArg some (by kernel_rfl))
  f225 := Tryd.func109.trans (congrArg some (by kernel_rfl))
  f266 := Tryd.func121.trans (congrArg some (by kernel_rfl))
  f267 := Tryd.func111.trans (congrArg some (by kernel_rfl))
  f314 := Tryd.func122.trans (congrArg some (by kernel_rfl))
  t3 := Tryd.underlying3
  a3 := Tryd.isAgg3
  z3 := Tryd.sizeOf3
  v3 := Tryd.zeroValue3
  t4 := Tryd.underlying4
  a4 := Tryd.isAgg4
  z4 := Tryd.sizeOf4
  v4 := Tryd.zeroValue4
  t5 := Tryd.underlying5
  a5 := Tryd.isAgg5
  z5 := Tryd.sizeOf5
  v5 := Tryd.zeroValue5
  t9 := Tryd.underlying9
  a9 := Tryd.isAgg9
  z9 := Tryd.sizeOf9
  v9 := Tryd.zeroValue9
  t46 := Tryd.underlying78
  a46 := Tryd.isAgg78
  z46 := Tryd.sizeOf78
  v46 := Tryd.zeroValue78
  t51 := Tryd.underlying97
  a51 := Tryd.isAgg97
  z51 := Tryd.sizeOf97
  v51 := Tryd.zeroValue97
  t146 := Tryd.underlying125
  a146 := Tryd.isAgg125
  z146 := Tryd.sizeOf125
  v146 := Tryd.zeroValue125
  g1 := by kernel_rfl }
open Go.RowKit Go.Lib in
theorem stringslite_Index_one (s : ByteArray) (c : UInt8) (w : World) :
    Calls Tryd.prog 101 #[.string s, .string ⟨#[c]⟩] w fun e w' => e = .returned (.int .i64 (Lib.indexByte s.data.toList c)) ∧ w' = w := Any.stringslite_Index_one lays219 s c w
end Go.Proofs.YtbkiedhaacapbaaDoor

namespace Go.Proofs.YtbkiedhaacapbaaDoor
open Go.RowKit Go.Sort
set_option maxRecDepth 100000
set_option maxHeartbeats 2000000 in
theorem cut1_any (s : ByteArray) (w : World) (hix : Lib.indexByte s.data.toList 58 = 1) (hsz : 2 ≤ s.size) :
    Calls Tryd.prog 94 #[.string s, .string ⟨#[58]⟩] w fun e w' => e = .returned (.tuple #[.string (s.extract 0 1), .string (s.extract 2 s.size), .bool true]) ∧ Below w.heap.size w w' := by
  have c1 : (1 : Int) ≤ ↑s.size := by omega
  have c2 : (2 : Int) ≤ ↑s.size := by omega
  have mixed : Tryd.prog.follows Departure.mixedOrders = true := by kernel_rfl
  have e2 : IntKind.i64.wrap 2 = 2 := by decide
  have HC := Lib.hid (stringslite_Index_one s 58 w)
  rw [hix] at HC
  clear hix
  go_enter Tryd.func94, Tryd.ntmps94
  go_wp2_with fail
  refine HC.out.mono ?_
  rintro e _ ⟨rfl, rfl⟩
  go_wp2_with fail
  go_region_o
  go_wp2
  go_ret3
  exact ⟨rfl, (Below.refl _ _).drew⟩
set_option maxHeartbeats 1000000 in
theorem cut_any (s : ByteArray) (w : World) (hix : Lib.indexByte s.data.toList 58 = 1) (hsz : 2 ≤ s.size) :
    Calls Tryd.prog 63 #[.string s, .string ⟨#[58]⟩] w fun e w' => e = .returned (.tuple #[.string (s.extract 0 1), .string (s.extract 2 s.size), .bool true]) ∧ Below w.heap.size w w' := by
  have HC := Lib.hid (cut1_any s w hix hsz)
  clear hix
  generalize s.extract 0 1 = A at *
  generalize s.extract 2 s.size = B at *
  go_enter Tryd.func63, Tryd.ntmps63
  go_wp2_with fail
  refine HC.out.mono ?_
  rintro e w1 ⟨rfl, hb⟩
  have HB := Lib.hid hb
  clear hb
  go_wp2
  go_ret3
  exact ⟨rfl, HB.out⟩
theorem idx_one {d : UInt8} (hd : d ≠ 58) (R : List UInt8) : Lib.indexByte (d :: 58 :: R) 58 = 1 := by
  simp [Lib.indexByte, hd]
theorem ext_one (d : UInt8) (R : List UInt8) : (ByteArray.mk (d :: 58 :: R).toArray).extract 0 1 = ⟨[d].toArray⟩ := by
  apply ByteArray.ext
  simp
theorem ext_two (d : UInt8) (R : List UInt8) : (ByteArray.mk (d :: 58 :: R).toArray).extract 2 (ByteArray.mk (d :: 58 :: R).toArray).size = ⟨R.toArray⟩ := by
  apply ByteArray.ext
  rw [ByteArray.data_extract]
  have e : (ByteArray.mk (d :: 58 :: R).toArray).size = (d :: 58 :: R).toArray.size := rfl
  rw [e]
  apply Array.toList_inj.1
  simp
end Go.Proofs.YtbkiedhaacapbaaDoor

namespace Go.Proofs.YtbkiedhaacapbaaDoor
open Go.Shelf
def lays172_ren : Go.Shelf.Ren := ⟨fun | 172 => 95 | 244 => 102 | 245 => 103 | 247 => 112 | 279 => 113 | 280 => 114 | 281 => 115 | 282 => 116 | 287 => 123 | 316 => 124 | 171 => 89 | 205 => 125 | 321 => 131 | 322 => 132 | 243 => 100 | 246 => 107 | 283 => 117 | 284 => 118 | 285 => 119 | 286 => 120 | 129 => 127 | 317 => 126 | 318 => 128 | 319 => 129 | 320 => 130 | 337 => 133 | 338 => 134 | n => n, fun | 9 => 9 | 3 => 3 | 75 => 101 | 76 => 102 | 4 => 4 | 5 => 5 | 167 => 115 | 37 => 22 | 0 => 0 | 85 => 116 | 2 => 2 | 168 => 118 | 53 => 99 | 175 => 127 | 46 => 78 | 210 => 131 | 127 => 138 | 145 => 141 | 143 => 139 | 21 => 21 | 171 => 121 | 173 => 123 | 212 => 134 | 51 => 97 | 20 => 20 | 213 => 135 | 232 => 142 | 233 => 143 | 80 => 144 | n => n, fun | 15 => 1 | 16 => 2 | 17 => 3 | 18 => 4 | 19 => 5 | n => n⟩
theorem lays172 : Go.Proofs.Lays.n172 Tryd.prog lays172_ren := {
  mixed := by kernel_rfl
  f129 := Tryd.func127.trans (congrArg some (by kernel_rfl))
  f171 := Tryd.func89.trans (congrArg some (by kernel_rfl))
  f172 := Tryd.func95.trans (congrArg some (by kernel_rfl))
  f205 := Tryd.func125.trans (congrArg some (by kernel_rfl))
  f243 := Tryd.func100.trans (congrArg some (by kernel_rfl))
  f244 := Tryd.func102.trans (congrArg some (by kernel_rfl))
  f245 := Tryd.func103.trans (congrArg some (by kernel_rfl))
  f246 := Tryd.func107.trans (congrArg some (by kernel_rfl))
  f247 := Tryd.func112.trans (congrArg some (by kernel_rfl))
  f279 := Tryd.func113.trans (congrArg some (by kernel_rfl))
  f280 := Tryd.func114.trans (congrArg some (by kernel_rfl))
  f281 := Tryd.func115.trans (congrArg some (by kernel_rfl))
  f282 := Tryd.func116.trans (congrArg some (by kernel_rfl))
  f283 := Tryd.func117.trans (congrArg some (by kernel_rfl))
  f284 := Tryd.func118.trans (congrArg some (by kernel_rfl))
  f285 := Tryd.func119.trans (congrArg some (by kernel_rfl))
  f286 := Tryd.func120.trans (congrArg some (by kernel_rfl))
  f287 := Tryd.func123.trans (congrArg some (by kernel_rfl))
  f316 := Tryd.func124.trans (congrArg some (by kernel_rfl))
  f317 := Tryd.func126.trans (congrArg some (by kernel_rfl))
  f318 := Tryd.func128.trans (congrArg some (by kernel_rfl))
  f319 := Tryd.func129.trans (congrArg some (by kernel_rfl))
  f320 := Tryd.func130.trans (congrArg some (by kernel_rfl))
  f321 := Tryd.func131.trans (congrArg some (by kernel_rfl))
  f322 := Tryd.func132.trans (congrArg some (by kernel_rfl))
  f337 := Tryd.func133.trans (congrArg some (by kernel_rfl))
  f338 := Tryd.func134.trans (congrArg some (by kernel_rfl))
  t0 := Tryd.underlying0
  a0 := Tryd.isAgg0
  z0 := Tryd.sizeOf0
  v0 := Tryd.zeroValue0
  t2 := Tryd.underlying2
  a2 := Tryd.isAgg2
  z2 := Tryd.sizeOf2
  v2 := Tryd.zeroValue2
  t3 := Tryd.underlying3
  a3 := Tryd.isAgg3
  z3 := Tryd.sizeOf3
  v3 := Tryd.zeroValue3
  t4 := Tryd.underlying4
  a4 := Tryd.isAgg4
  z4 := Tryd.sizeOf4
  v4 := Tryd.zeroValue4
  t5 := Tryd.underlying5
  a5 := Tryd.isAgg5
  z5 := Tryd.sizeOf5
  v5 := Tryd.zeroValue5
  t9 := Tryd.underlying9
  a9 := Tryd.isAgg9
  z9 := Tryd.sizeOf9
  v9 := Tryd.zeroValue9
  t20 := Tryd.underlying20
  a20 := Tryd.isAgg20
  z20 := Tryd.sizeOf20
  v20 := Tryd.zeroValue20
  t21 := Tryd.underlying21
  a21 := Tryd.isAgg21
  z21 := Tryd.sizeOf21
  v21 := Tryd.zeroValue21
  t37 := Tryd.underlying22
  a37 := Tryd.isAgg22
  z37 := Tryd.sizeOf22
  v37 := Tryd.zeroValue22
  t46 := Tryd.underlying78
  a46 := Tryd.isAgg78
  z46 := Tryd.sizeOf78
  v46 := Tryd.zeroValue78
  t51 := Tryd.underlying97
  a51 := Tryd.isAgg97
  z51 := Tryd.sizeOf97
  v51 := Tryd.zeroValue97
  t53 := Tryd.underlying99
  a53 := Tryd.isAgg99
  z53 := Tryd.sizeOf99
  v53 := Tryd.zeroValue99
  t75 := Tryd.underlying101
  a75 := Tryd.isAgg101
  z75 := Tryd.sizeOf101
  v75 := Tryd.zeroValue101
  t76 := Tryd.underlying102
  a76 := Tryd.isAgg102
  z76 := Tryd.sizeOf102
  v76 := Tryd.zeroValue102
  t85 := Tryd.underlying116
  a85 := Tryd.isAgg116
  z85 := Tryd.sizeOf116
  v85 := Tryd.zeroValue116
  t127 := Tryd.underlying138
  a127 := Tryd.isAgg138
  z127 := Tryd.sizeOf138
  v127 := Tryd.zeroValue138
  t143 := Tryd.underlying139
  a143 := Tryd.isAgg139
  z143 := Tryd.sizeOf139
  v143 := Tryd.zeroValue139
  t145 := Tryd.underlying141
  a145 := Tryd.isAgg141
  z145 := Tryd.sizeOf141
  v145 := Tryd.zeroValue141
  t167 := Tryd.underlying115
  a167 := Tryd.isAgg115
  z167 := Tryd.sizeOf115
  v167 := Tryd.zeroValue115
  t168 := Tryd.underlying118
  a168 := Tryd.isAgg118
  z168 := Tryd.sizeOf118
  v168 := Tryd.zeroValue118
  t171 := Tryd.underlying121
  a171 := Tryd.isAgg121
  z171 := Tryd.sizeOf121
  v171 := Tryd.zeroValue121
  t173 := Tryd.underlying123
  a173 := Tryd.isAgg123
  z173 := Tryd.sizeOf123
  v173 := Tryd.zeroValue123
  t175 := Tryd.underlying127
  a175 := Tryd.isAgg127
  z175 := Tryd.sizeOf127
  v175 := Tryd.zeroValue127
  t210 := Tryd.underlying131
  a210 := Tryd.isAgg131
  z210 := Tryd.sizeOf131
  v210 := Tryd.zeroValue131
  t212 := Tryd.underlying134
  a212 := Tryd.isAgg134
  z212 := Tryd.sizeOf134
  v212 := Tryd.zeroValue134
  t213 := Tryd.underlying135
  a213 := Tryd.isAgg135
  z213 := Tryd.sizeOf135
  t232 := Tryd.underlying142
  a232 := Tryd.isAgg142
  z232 := Tryd.sizeOf142
  v232 := Tryd.zeroValue142
  t233 := Tryd.underlying143
  a233 := Tryd.isAgg143
  z233 := Tryd.sizeOf143
  v233 := Tryd.zeroValue143
  g15 := by kernel_rfl
  g16 := by kernel_rfl
  g17 := by kernel_rfl
  g18 := by kernel_rfl
  g19 := by kernel_rfl }
open Go.RowKit in
theorem strconv_Atoi (s : ByteArray) (n : Int) (hl : s.size ≤ 18) (h : Lib.atoi s.data.toList = some n) (w : World) :
    Calls Tryd.prog 95 #[.string s] w fun e w' => e = .returned (.tuple #[.int .i64 n, .nilIface]) ∧ ∃ t, w' = Lib.bytesWorld w 5 t := Any.strconv_Atoi lays172 s n hl h w
end Go.Proofs.YtbkiedhaacapbaaDoor

namespace Go.Proofs.YtbkiedhaacapbaaDoor
open Go.RowKit Go.Sort
set_option maxRecDepth 100000
variable {n : Nat} {xs : List Int} {sl : Value} {w : World}
theorem atoi_dig : ∀ n, n < 10 → Lib.atoi [UInt8.ofNat (48 + n)] = some (n : Int) := by decide +kernel
set_option maxHeartbeats 1000000 in
theorem parseInt_any (i : Nat) (hi : i < 10) (w : World) : Calls Tryd.prog 64 #[.string ⟨[UInt8.ofNat (48 + i)].toArray⟩] w fun e w' => e = .returned (.tuple #[.int .i64 i, .bool true]) ∧ Below w.heap.size w w' := by
  have HC := Lib.hid (strconv_Atoi ⟨[UInt8.ofNat (48 + i)].toArray⟩ (i : Int) (by show [UInt8.ofNat (48 + i)].toArray.size ≤ 18; simp) (by rw [show (ByteArray.mk [UInt8.ofNat (48 + i)].toArray).data.toList = [UInt8.ofNat (48 + i)] from rfl]; exact atoi_dig i hi) w)
  have HF := Lib.hid (fun W => fmtInt_any i hi W)
  generalize (ByteArray.mk [UInt8.ofNat (48 + i)].toArray) = s at *
  go_enter Tryd.func64, Tryd.ntmps64
  go_wp2_with fail
  refine HC.out.mono ?_
  rintro e w1 ⟨rfl, t, rfl⟩
  have hb := Lib.bytesWorld_below w 5 t
  generalize Lib.bytesWorld w 5 t = w1 at *
  have HB := Lib.hid hb
  clear hb HC
  go_wp2_with fail
  refine (HF.out w1).mono ?_
  rintro e _ ⟨rfl, rfl⟩
  go_wp2
  go_ret2
  exact ⟨rfl, HB.out⟩
/-- what ParseTour has made: its rows in a block of its own, the tour's box, the result's box -/
structure PrS (w W : World) (gl gu n : Nat) (N : List Int) : Prop where
  own : Own W w.heap.size (.slice (some ⟨gl, 0, none⟩) n n) N
  box : BoxF W gu n (.slice (some ⟨gl, 0, none⟩) n n)
  res : BoxF W w.heap.size 0 (.slice none 0 0)
  below : Below w.heap.size w W
theorem PrS.next {w W W' : World} {gl gu n : Nat} {N : List Int} (h : PrS w W gl gu n N) (hb : Below W.heap.size W W') : PrS w W' gl gu n N :=
  ⟨h.own.below hb, h.box.below hb, h.res.below hb, Below.then h.below hb⟩
theorem PrS.store {w W : World} {gl gu n : Nat} {N : List Int} (h : PrS w W gl gu n N) (hl : N.length = n) (hgu : gl ≠ gu) (hgl : w.heap.size < gl) (i : Nat) (x : Int) : PrS w (W.setCell ⟨gl, i, none⟩ (.int .i64 x)) gl gu n (N.set i x) :=
  ⟨(h.own.set_ hl i x).1, h.box.kept (setCell_grown _ ⟨gl, i, none⟩ (.int .i64 x)) (by simp; omega), h.res.kept (setCell_grown _ ⟨gl, i, none⟩ (.int .i64 x)) (by simp; omega), h.below.setCell (p := ⟨gl, i, none⟩) (show w.heap.size ≤ gl by omega) _⟩
theorem gm_byte (xs : List Int) {n p : Nat} (h : p < gmP n n) : (gmL xs n n).toArray[p]? = some ((gmL xs n n).getD p 0) := by
  have : p < (gmL xs n n).length := by rw [gmL_len]; exact h
  simp [List.getD_eq_getElem?_getD, this]
theorem sq_half {n : Nat} (h8 : n ≤ 8) : (((gmP n n : Nat) : Int) != wrap64 ((wrap64 ((n : Int) * ((n : Int) - 1))).tdiv 2)) = false := by
  rcases (show n = 0 ∨ n = 1 ∨ n = 2 ∨ n = 3 ∨ n = 4 ∨ n = 5 ∨ n = 6 ∨ n = 7 ∨ n = 8 by omega) with rfl | rfl | rfl | rfl | rfl | rfl | rfl | rfl | rfl <;> decide +kernel
theorem idx_str (gs : ByteArray) (p : Nat) (c : UInt8) (k : Nat) (h : gs.data[p]? = some c) (hk : c.toNat = k) (w : World) : (Instr.index 9 (.string gs) (.int .i64 (p : Int))).run Tryd.prog w = .ok (.int .u8 (k : Nat)) w := by
  obtain ⟨hp, hc⟩ := Array.getElem?_eq_some_iff.1 h
  have hs : p < gs.size := hp
  rw [run_index_string w _ gs .i64 p Tryd.underlying9, dif_pos ⟨by omega, by omega⟩]
  have e : gs[((p : Nat) : Int).toNat]'(by omega) = c := hc
  rw [e, hk]
set_option maxHeartbeats 8000000 in
theorem cParse (hp : tourP n xs) (w : World) : Calls Tryd.prog 30 #[.string ⟨(fmL xs n).toArray⟩] w fun e w' => ∃ A c, e = .returned (.tuple #[.agg #[.int .i64 n, .slice A n c], .bool true]) ∧ Own w' w.heap.size (.slice A n c) xs ∧ Below w.heap.size w w' := by
  have h1 : 1 ≤ n := by have := hp.1; omega
  have h8 : n ≤ 8 := by have := hp.1; omega
  obtain ⟨i0, hi, hz0, hz1, hz2⟩ := info_parts i64_info
  have hd : UInt8.ofNat (48 + n) ≠ 58 := by
    rcases (show n = 1 ∨ n = 2 ∨ n = 3 ∨ n = 4 ∨ n = 5 ∨ n = 6 ∨ n = 7 ∨ n = 8 by omega) with rfl | rfl | rfl | rfl | rfl | rfl | rfl | rfl <;> decide
  have HCU := Lib.hid (fun W => cut_any ⟨(fmL xs n).toArray⟩ W (idx_one hd _) (by show 2 ≤ (fmL xs n).toArray.size; simp [fmL]))
  have e1 : (ByteArray.mk (fmL xs n).toArray).extract 0 1 = ⟨[UInt8.ofNat (48 + n)].toArray⟩ := ext_one _ _
  have e2 : (ByteArray.mk (fmL xs n).toArray).extract 2 (ByteArray.mk (fmL xs n).toArray).size = ⟨(gmL xs n n).toArray⟩ := ext_two _ _
  rw [e1, e2] at HCU
  have HPI := Lib.hid (fun W => parseInt_any n (by omega) W)
  have HFM := Lib.hid (fun W (v : Value) (h : Rd W v xs) => cFormat hp h)
  have HP := Lib.hid hp
  clear e1 e2 hd hp
  generalize (ByteArray.mk [UInt8.ofNat (48 + n)].toArray) = s0 at *
  generalize hs : (ByteArray.mk (fmL xs n).toArray) = s at *
  have hG : (ByteArray.mk (gmL xs n n).toArray).size = gmP n n := by show (gmL xs n n).toArray.size = _; simp [gmL_len]
  have HGB : Hid (∀ p, p < gmP n n → (ByteArray.mk (gmL xs n n).toArray).data[p]? = some ((gmL xs n n).getD p 0)) := Lib.hid fun p hp => gm_byte xs hp
  generalize hgs : (ByteArray.mk (gmL xs n n).toArray) = gs at *
  clear hgs
  have HT0 := Lib.hid (BoxF.new w 0 (.slice none 0 0) 25)
  have HB0 := Lib.hid (below_alloc1 w (.cells #[.int .i64 0, .slice none 0 0] 25))
  go_enter Tryd.func30, Tryd.ntmps30
  go_wp2_with fail
  generalize w.alloc (.cells #[.int .i64 0, .slice none 0 0] 25) = w0 at *
  refine (HCU.out w0).mono ?_
  rintro e w1 ⟨rfl, hb⟩
  have HT1 := Lib.hid (HT0.out.below hb)
  have HB1 := Lib.hid (Below.then HB0.out hb)
  clear hb HT0 HB0 HCU
  go_wp2_with fail
  refine (HPI.out w1).mono ?_
  rintro e w2 ⟨rfl, hb⟩
  have HT2 := Lib.hid (HT1.out.below hb)
  have HB2 := Lib.hid (Below.then HB1.out hb)
  clear hb HT1 HB1 HPI
  have hin : inB (n : Int) 1 8 = true := inB_true.2 ⟨by omega, by omega⟩
  have hsq := sq_half h8
  have HGP := Lib.hid (fun a b (hab : a < b) (hb : b < n) => gmP_lt hab hb)
  have HGA := Lib.hid (fun a b (hab : a < b) (hb : b < n) => gmL_at xs hab hb)
  have hG64 : gmP n n ≤ 64 := by have := gmP_full n; have := Nat.mul_le_mul h8 h8; omega
  generalize hGE : gmP n n = G at *
  go_wp2_with fail
  refine (within_any _ _ _ _).mono ?_
  rintro e _ ⟨rfl, rfl⟩
  rw [hin]
  clear hin
  go_wp2_with (at_make; refine wpList_make_full _ rfl _ _ 23 rfl w2.heap.size 3 i0 (.int .i64 0) 1 Tryd.underlying23 hi hz0 hz1 _ _ _ _ n rfl rfl rfl rfl (by rw [hz2]; omega) (by unfold maxLen; omega) (Nat.le_refl _) ?_; intro w3 hown hg1; have hb3 : Below w2.heap.size w2 w3 := (Below.refl _ _).grown hg1 (Nat.le_refl _) (by simp); have HT3 := Lib.hid (HT2.out.below hb3); have HB3 := Lib.hid (Below.then HB2.out hb3); have HOWN := Lib.hid hown; clear hown hg1 hb3)
  have hgl := (World.ownsRow.lt HOWN.out w2.heap.size rfl).2
  have hw2 := HT2.out.gt
  have bU := below_alloc1 w3 (.cells #[.int .i64 n, .slice (some ⟨w2.heap.size, 0, none⟩) n n] 25)
  have HU4 := Lib.hid (BoxF.new w3 n (.slice (some ⟨w2.heap.size, 0, none⟩) n n) 25)
  have HT4 := Lib.hid (HT3.out.below bU)
  have HB4 := Lib.hid (Below.then HB3.out bU)
  have HO4 : Hid (Own (w3.alloc (.cells #[.int .i64 n, .slice (some ⟨w2.heap.size, 0, none⟩) n n] 25)) w.heap.size (.slice (some ⟨w2.heap.size, 0, none⟩) n n) (List.replicate n 0)) := by
    have ho := HOWN.out
    rw [ints_made'] at ho
    refine Own.mono (b := w2.heap.size) ?_ (by omega)
    refine Own.below (w := w3) ?_ bU
    unfold Own
    rw [List.length_replicate]
    exact ho
  generalize w3.alloc (.cells #[.int .i64 n, .slice (some ⟨w2.heap.size, 0, none⟩) n n] 25) = w4 at *
  generalize hgu : w3.heap.size = gu at *
  generalize hgl' : w2.heap.size = gl at *
  have hgg : gl ≠ gu := by omega
  have hwl : w.heap.size < gl := by omega
  have HS4 : Hid (PrS w w4 gl gu n (List.replicate n 0)) := Lib.hid ⟨HO4.out, HU4.out, HT4.out, HB4.out⟩
  clear bU HOWN HT3 HB3 HT2 HB2 hgu hgl' hgl hw2 HO4 HU4 HT4 HB4 hsq
  go_loopw [9, 43] (fun t9 t43 wr => ∃ (a : Nat), a ≤ n ∧ t43 = .int .i64 a ∧ t9 = .int .i64 (gmP n a : Nat) ∧ Hid (gmP n a ≤ 64) ∧ Hid (PrS w wr gl gu n (hfL xs n a (a + 1)))) (fun _ t43 _ => n - (intOf t43).toNat)
  case atStart => exact ⟨0, by omega, rfl, rfl, (by decide : (0 : Nat) ≤ 64), by rw [hf_start HP.out]; exact HS4⟩
  case round =>
    obtain ⟨wa, rfl⟩ : ∃ x, x = wr := ⟨_, rfl⟩
    obtain ⟨a, ha, rfl, rfl, HA, HS⟩ := hrel
    clear HS4
    by_cases hlt : a < n
    · obtain ⟨q, hq⟩ : ∃ q, q = gmP n a := ⟨_, rfl⟩
      have HQE := Lib.hid hq
      rw [← hq] at HA ⊢
      clear hq
      have hq64 := HA.out
      go_wp2
      go_loopw [9, 12] (fun t9 t12 wr => ∃ (b p : Nat), a < b ∧ b ≤ n ∧ t12 = .int .i64 b ∧ t9 = .int .i64 (p : Nat) ∧ Hid (p = q + (b - (a + 1))) ∧ Hid (PrS w wr gl gu n (hfL xs n a b))) (fun _ t12 _ => n - (intOf t12).toNat)
      case atStart => exact ⟨a + 1, q, by omega, by omega, by go_num, rfl, Lib.hid (by omega), HS⟩
      case round =>
        obtain ⟨wk, rfl⟩ : ∃ x, x = wr := ⟨_, rfl⟩
        clear HS
        obtain ⟨b, p, hab, hb, rfl, rfl, HPE, HS2⟩ := hrel
        by_cases hltb : b < n
        · have hpG : p < G := by rw [HPE.out, HQE.out]; exact HGP.out a b hab hltb
          have HBY : Hid (gs.data[p]? = some (gmB xs a b)) := Lib.hid (by rw [HGB.out p hpG, HPE.out, HQE.out, HGA.out a b hab hltb])
          rcases hwb : bt xs a b with _ | _
          case' true => have hw := hwb
          case' false => have hw : bt xs b a = true := by have := (tr_bit HP.out (show a < n by omega) hltb).2 (by omega); rw [hwb] at this; simpa using this.symm
          case true =>
           have hT := hwb
           clear hwb
           have hst := hf_step HP.out hab hltb (u := a) (v := b) (.inl ⟨rfl, rfl⟩) hw
           have HST := Lib.hid hst.1
           have hlt8 := hst.2
           clear hst
           have za := (HS2.out.own.at1 (hfL_len _ _ _ _) (by omega)).1 a (by omega)
           rw [hfL_at xs (show a < n by omega)] at za
           have hSl := setOf_lt (hfQ xs a b a) n
           have hpn : 2 ^ n ≤ 256 := Nat.pow_le_pow_right (n := 2) (j := 8) (by decide) h8
           generalize setOf (hfQ xs a b a) n = S at *
           have hor := or_shl S b (by omega) (by omega)
           have i0 := idx_str gs p 49 49 (by rw [HBY.out]; unfold gmB; rw [if_pos hw]) rfl
           have u1 := HS2.out.box.1.2
           generalize S ||| 2 ^ b = X at *
           go_wp2_with fail
           have c1 := cell_regrown u1
           have c2 := cell_regrown za
           clear za u1 i0
           refine wp_region_below_tail 9 (by kernel_rfl) (by kernel_rfl) ?_
           simp only [List.take_succ_cons, List.take_zero, List.drop_succ_cons, List.drop_zero]
           repeat (go_big_quiet_step (first | (with_reducible fail)))
           refine wpQuiet_nil ?_
           intro wq hbq0
           have hbq := Lib.hid hbq0
           clear hbq0
           clear c1 c2 hor
           have HQ := Lib.hid (HS2.out.next hbq.out)
           obtain ⟨hx2, hf2⟩ := HQ.out.own.at1 (hfL_len _ _ _ _) (show 0 < n by omega)
           have fa := hf2 a
           have za := hx2 a (by omega)
           have HQ2 : Hid (PrS w (wq.setCell ⟨gl, a, none⟩ (.int .i64 (X : Nat))) gl gu n (hfL xs n a (b + 1))) := Lib.hid (by rw [HST.out]; exact HQ.out.store (hfL_len _ _ _ _) hgg hwl a X)
           clear hx2 hf2 HQ HS2 hbq
           go_wp2
           go_roundw
           case rel => exact ⟨b + 1, p + 1, by omega, by omega, by go_num, by go_num, Lib.hid (by rw [HPE.out]; omega), HQ2⟩
           case measure => simp [intOf]; omega
          case false =>
           have hst := hf_step HP.out hab hltb (u := b) (v := a) (.inr ⟨rfl, rfl⟩) hw
           have HST := Lib.hid hst.1
           have hlt8 := hst.2
           clear hst
           have za := (HS2.out.own.at1 (hfL_len _ _ _ _) (by omega)).1 b (by omega)
           rw [hfL_at xs (show b < n by omega)] at za
           have hSl := setOf_lt (hfQ xs a b b) n
           have hpn : 2 ^ n ≤ 256 := Nat.pow_le_pow_right (n := 2) (j := 8) (by decide) h8
           generalize setOf (hfQ xs a b b) n = S at *
           have hor := or_shl S a (by omega) (by omega)
           have i0 := idx_str gs p 48 48 (by rw [HBY.out]; unfold gmB; rw [if_neg (by rw [hwb]; decide)]) rfl
           have u1 := HS2.out.box.1.2
           generalize S ||| 2 ^ a = X at *
           go_wp2_with fail
           have c1 := cell_regrown u1
           have c2 := cell_regrown za
           clear za u1 i0
           refine wp_region_below_tail 9 (by kernel_rfl) (by kernel_rfl) ?_
           simp only [List.take_succ_cons, List.take_zero, List.drop_succ_cons, List.drop_zero]
           repeat (go_big_quiet_step (first | (with_reducible fail)))
           refine wpQuiet_nil ?_
           intro wq hbq0
           have hbq := Lib.hid hbq0
           clear hbq0
           clear c1 c2 hor
           have HQ := Lib.hid (HS2.out.next hbq.out)
           obtain ⟨hx2, hf2⟩ := HQ.out.own.at1 (hfL_len _ _ _ _) (show 0 < n by omega)
           have fa := hf2 b
           have za := hx2 b (by omega)
           have HQ2 : Hid (PrS w (wq.setCell ⟨gl, b, none⟩ (.int .i64 (X : Nat))) gl gu n (hfL xs n a (b + 1))) := Lib.hid (by rw [HST.out]; exact HQ.out.store (hfL_len _ _ _ _) hgg hwl b X)
           clear hx2 hf2 HQ HS2 hbq
           go_wp2
           go_roundw
           case rel => exact ⟨b + 1, p + 1, by omega, by omega, by go_num, by go_num, Lib.hid (by rw [HPE.out]; omega), HQ2⟩
           case measure => simp [intOf]; omega
        · obtain rfl : n = b := by omega
          have HR : Hid (PrS w wk gl gu n (hfL xs n (a + 1) (a + 1 + 1))) := Lib.hid (by rw [← hf_row HP.out a]; exact HS2.out)
          have HPN : Hid (p = gmP n (a + 1)) := Lib.hid (by rw [HPE.out, HQE.out]; rfl)
          have HP6 : Hid (gmP n (a + 1) ≤ 64) := Lib.hid (by have := gmP_mono (n := n) (k := a + 1) (m := n) (by omega); omega)
          go_wp2
          go_roundw
          case rel => exact ⟨a + 1, by omega, by go_num, by rw [← HPN.out], HP6, HR⟩
          case measure => simp [intOf]; omega
    · obtain rfl : n = a := by omega
      have HSx : Hid (PrS w wa gl gu n xs) := Lib.hid (by have := HS.out; rwa [hf_end HP.out] at this)
      clear HS HGP HGA HGB
      have u0 := HSx.out.box.1.1
      have u1 := HSx.out.box.1.2
      go_wp2_with fail
      refine (HFM.out wa _ HSx.out.own.rd).mono ?_
      rintro e w5 ⟨rfl, hb⟩
      have HSy := Lib.hid (HSx.out.next hb)
      clear hb HSx u0 u1
      have u0 := HSy.out.box.1.1
      have u1 := HSy.out.box.1.2
      have v0 := HSy.out.res.1.1
      have v1 := HSy.out.res.1.2
      have f0 := HSy.out.res.2 0
      have f1 := HSy.out.res.2 1
      have hgt := HSy.out.res.gt
      have HOx := Lib.hid ((HSy.out.own.kept (setCell_grown _ ⟨w.heap.size, 0, none⟩ (.int .i64 n)) (.inr (show some gl ≠ some w.heap.size by simp; omega))).kept (setCell_grown _ ⟨w.heap.size, 1, none⟩ (.slice (some ⟨gl, 0, none⟩) n n)) (.inr (show some gl ≠ some w.heap.size by simp; omega)))
      have HBx := Lib.hid ((HSy.out.below.setCell (p := ⟨w.heap.size, 0, none⟩) (Nat.le_refl _) (.int .i64 n)).setCell (p := ⟨w.heap.size, 1, none⟩) (Nat.le_refl _) (.slice (some ⟨gl, 0, none⟩) n n))
      have R0 : Hid (((w5.setCell ⟨w.heap.size, 0, none⟩ (.int .i64 n)).setCell ⟨w.heap.size, 1, none⟩ (.slice (some ⟨gl, 0, none⟩) n n)).cell? ⟨w.heap.size, 0, none⟩ = some (.int .i64 n)) := (World.cell?_setCell_other _ _ _ _ (by simp)).trans (World.cell?_setCell_same _ _ _ v0)
      have R1 : Hid (((w5.setCell ⟨w.heap.size, 0, none⟩ (.int .i64 n)).setCell ⟨w.heap.size, 1, none⟩ (.slice (some ⟨gl, 0, none⟩) n n)).cell? ⟨w.heap.size, 1, none⟩ = some (.slice (some ⟨gl, 0, none⟩) n n)) := World.cell?_setCell_same _ _ _ ((World.cell?_setCell_other _ _ _ _ (by simp)).trans v1)
      go_wp2
      have r0 := R0.out
      have r1 := R1.out
      refine bodyPost_ret (v := .tuple #[.agg #[.int .i64 n, .slice (some ⟨gl, 0, none⟩) n n], .bool true]) (by simp only [results, Tryd.results30]; simp [go_sem, r0, r1]) rfl ⟨_, _, rfl, HOx.out, HBx.out⟩
end Go.Proofs.YtbkiedhaacapbaaDoor

