/- Texts put together: ShItoa, FmT, TgM, ShDel, DelO, ShIns, InsO, OrI, OrJ, OrQ. -/
import Derived.Shelf.Strconv.Itoa3
import Derived.Test.YthoodjjjklbggaaGreatDoorMTriangles01
import Derived.Test.YthoodjjjklbggaaGreatDoorMTriangles07
import Derived.Test.YthoodjjjklbggaaGreatDoorMTriangles09
import Derived.Laws.Concat
import Derived.Maps.OwnSet
import Derived.Ground.Names2Prog
import Derived.Shelf.Slices.Clone
import Derived.Shelf.Slices.Delete
import Derived.Shelf.Slices.Cells
import Derived.Shelf.Slices.Empties
import Derived.Shelf.Spec.SlicesInsert
import Derived.Shelf.Spec.SlicesInsertGrow
import Derived.Test.YthoodjjjklbggaaGreatDoorMTriangles15
import Derived.Test.YthoodjjjklbggaaGreatDoorMTriangles10
import Derived.Test.YthoodjjjklbggaaGreatDoorMTriangles16
import Derived.Deep.LoopGhost
namespace Go.Proofs.YthoodjjjklbggaaGreatDoor
open Go.Shelf
def lays171_ren : Go.Shelf.Ren := ⟨fun | 171 => 81 | 243 => 102 | 246 => 111 | 283 => 114 | 284 => 115 | 285 => 116 | 286 => 117 | 129 => 92 | 317 => 118 | 318 => 119 | 319 => 120 | 320 => 121 | 337 => 122 | 338 => 123 | n => n, fun | 3 => 3 | 9 => 9 | 2 => 2 | 4 => 4 | 171 => 119 | 0 => 0 | 53 => 85 | 37 => 22 | 5 => 5 | 173 => 121 | 212 => 124 | 51 => 83 | 20 => 20 | 213 => 125 | 46 => 56 | 232 => 126 | 233 => 127 | n => n, fun | 17 => 0 | 18 => 1 | 19 => 2 | n => n⟩
theorem lays171 : Go.Proofs.Lays.n171 Tryz.prog lays171_ren := {
  mixed := by kernel_rfl
  f129 := Tryz.func92.trans (congrArg some (by kernel_rfl))
  f171 := Tryz.func81.trans (congrArg some (by kernel_rfl))
  f243 := Tryz.func102.trans (congrArg some (by kernel_rfl))
  f246 := Tryz.func111.trans (congrArg some (by kernel_rfl))
  f283 := Tryz.func114.trans (congrArg some (by kernel_rfl))
  f284 := Tryz.func115.trans (congrArg some (by kernel_rfl))
  f285 := Tryz.func116.trans (congrArg some (by kernel_rfl))
  f286 := Tryz.func117.trans (congrArg some (by kernel_rfl))
  f317 := Tryz.func118.trans (congrArg some (by kernel_rfl))
  f318 := Tryz.func119.trans (congrArg some (by kernel_rfl))
  f319 := Tryz.func120.trans (congrArg some (by kernel_rfl))
  f320 := Tryz.func121.trans (congrArg some (by kernel_rfl))
  f337 := Tryz.func122.trans (congrArg some (by kernel_rfl))
  f338 := Tryz.func123.trans (congrArg some (by kernel_rfl))
  t0 := Tryz.underlying0
  a0 := Tryz.isAgg0
  z0 := Tryz.sizeOf0
  v0 := Tryz.zeroValue0
  t2 := Tryz.underlying2
  a2 := Tryz.isAgg2
  z2 := Tryz.sizeOf2
  v2 := Tryz.zeroValue2
  t3 := Tryz.underlying3
  a3 := Tryz.isAgg3
  z3 := Tryz.sizeOf3
  v3 := Tryz.zeroValue3
  t4 := Tryz.underlying4
  a4 := Tryz.isAgg4
  z4 := Tryz.sizeOf4
  v4 := Tryz.zeroValue4
  t5 := Tryz.underlying5
  a5 := Tryz.isAgg5
  z5 := Tryz.sizeOf5
  v5 := Tryz.zeroValue5
  t9 := Tryz.underlying9
  a9 := Tryz.isAgg9
  z9 := Tryz.sizeOf9
  v9 := Tryz.zeroValue9
  t20 := Tryz.underlying20
  a20 := Tryz.isAgg20
  z20 := Tryz.sizeOf20
  v20 := Tryz.zeroValue20
  t37 := Tryz.underlying22
  a37 := Tryz.isAgg22
  z37 := Tryz.sizeOf22
  v37 := Tryz.zeroValue22
  t46 := Tryz.underlying56
  a46 := Tryz.isAgg56
  z46 := Tryz.sizeOf56
  v46 := Tryz.zeroValue56
  t51 := Tryz.underlying83
  a51 := Tryz.isAgg83
  z51 := Tryz.sizeOf83
  v51 := Tryz.zeroValue83
  t53 := Tryz.underlying85
  a53 := Tryz.isAgg85
  z53 := Tryz.sizeOf85
  v53 := Tryz.zeroValue85
  t171 := Tryz.underlying119
  a171 := Tryz.isAgg119
  z171 := Tryz.sizeOf119
  v171 := Tryz.zeroValue119
  t173 := Tryz.underlying121
  a173 := Tryz.isAgg121
  z173 := Tryz.sizeOf121
  v173 := Tryz.zeroValue121
  t212 := Tryz.underlying124
  a212 := Tryz.isAgg124
  z212 := Tryz.sizeOf124
  v212 := Tryz.zeroValue124
  t213 := Tryz.underlying125
  a213 := Tryz.isAgg125
  z213 := Tryz.sizeOf125
  t232 := Tryz.underlying126
  a232 := Tryz.isAgg126
  z232 := Tryz.sizeOf126
  v232 := Tryz.zeroValue126
  t233 := Tryz.underlying127
  a233 := Tryz.isAgg127
  z233 := Tryz.sizeOf127
  v233 := Tryz.zeroValue127
  g17 := by kernel_rfl
  g18 := by kernel_rfl
  g19 := by kernel_rfl }
open Go.RowKit Go.Sort Go.Lib in
theorem strconv_Itoa_small (i : Nat) (hi : i < 100) (w : World) :
    Calls Tryz.prog 81 #[.int .i64 i] w fun e w' => e = .returned (.string ⟨(Lib.decDigits i).toArray⟩) ∧ w' = w := Any.strconv_Itoa_small lays171 i hi w
end Go.Proofs.YthoodjjjklbggaaGreatDoor

namespace Go.Proofs.YthoodjjjklbggaaGreatDoor
open Go.RowKit Go.Sort
set_option maxRecDepth 100000
variable {n : Nat} {xs : List Int} {sl : Value} {w : World}
set_option maxHeartbeats 1000000 in
theorem fmtInt_any (i : Nat) (hi : i < 10) (w : World) : Calls Tryz.prog 70 #[.int .i64 i] w fun e w' => e = .returned (.string ⟨[UInt8.ofNat (48 + i)].toArray⟩) ∧ w = w' := by
  have hd : Lib.decDigits i = [UInt8.ofNat (48 + i)] := by rw [Lib.decDigits, dif_pos hi]
  have HC := Lib.hid (strconv_Itoa_small i (by omega) w)
  rw [hd] at HC
  clear hd
  generalize UInt8.ofNat (48 + i) = c at *
  go_enter Tryz.func70, Tryz.ntmps70
  go_wp2_with fail
  refine HC.out.mono ?_
  rintro e _ ⟨rfl, rfl⟩
  go_wp2
  go_ret
  exact ⟨rfl, rfl⟩
def fmK (xs : List Int) (n k : Nat) : List UInt8 := UInt8.ofNat (48 + n) :: 58 :: gmL xs n k
theorem fmK_len (xs : List Int) {n k : Nat} (h8 : n ≤ 8) (hk : k ≤ n) : (fmK xs n k).length ≤ 66 := by
  unfold fmK
  rw [List.length_cons, List.length_cons, gmL_len]
  have h1 := gmP_val n k hk
  have h2 : n * k ≤ 8 * 8 := Nat.mul_le_mul h8 (by omega)
  omega
def fmJ (xs : List Int) (n a j : Nat) : List UInt8 := fmK xs n a ++ gmR xs a j
theorem fmJ_succ (xs : List Int) (n a j : Nat) : fmJ xs n a (j + 1) = fmJ xs n a j ++ [gmB xs a (a + 1 + j)] := by
  unfold fmJ
  rw [gmR_succ, List.append_assoc]
theorem fmJ_end (xs : List Int) (n a : Nat) : fmJ xs n a (n - (a + 1)) = fmK xs n (a + 1) := rfl
theorem fmJ_len (xs : List Int) {n a j : Nat} (h8 : n ≤ 8) (ha : a ≤ n) (hj : j ≤ n) : (fmJ xs n a j).length ≤ 80 := by
  unfold fmJ
  have := fmK_len xs h8 ha
  rw [List.length_append, gmR_len]
  omega
theorem gmB_num (xs : List Int) (a b : Nat) : UInt8.ofNat (48 + ((winsN xs a).testBit b).toNat) = gmB xs a b := by
  unfold gmB bt
  cases (winsN xs a).testBit b <;> rfl
theorem add_lists (L M : List UInt8) (hL : L.length ≤ 1000) (hM : M.length ≤ 1000) (w : World) : (Op.stringOp .add ⟨L.toArray⟩ ⟨M.toArray⟩).run Tryz.prog w = .ok (.string ⟨(L ++ M).toArray⟩) w :=
  run_string_add_lists w L M (by omega) (by omega)
set_option maxHeartbeats 4000000 in
theorem cFormat (hp : tourP n xs) (h : Rd w sl xs) : Calls Tryz.prog 41 #[.agg #[.int .i64 n, sl]] w fun e w' => e = .returned (.string ⟨(fmL xs n).toArray⟩) ∧ Below w.heap.size w w' := by
  have HR := Lib.hid h
  obtain ⟨g, off, c, rfl, hcm, hg, hx⟩ := tour_cells h hp
  unfold maxLen at hcm
  rw [tour_len hp] at HR hx ⊢
  have HX := Lib.hid (fun k (hk : k < n) => (show w.cell? ⟨g, off + k, none⟩ = some (.int .i64 (winsN xs k : Nat)) from by exact hx k hk))
  have HW := Lib.hid (fun k (hk : k < n) => (tour_wins hp (a := k) (by rw [tour_len hp]; exact hk)).2.2)
  have h1 : 1 ≤ n := by have := hp.1; omega
  have h8 : n ≤ 8 := by have := hp.1; omega
  have HP := Lib.hid hp
  clear hp hx h
  go_enter Tryz.func41, Tryz.ntmps41
  go_wp2_with fail
  have b0 := below_alloc1 w (.cells #[.int .i64 n, .slice (some ⟨g, off, none⟩) n c] 25)
  have x0 := TBox.new w n (.slice (some ⟨g, off, none⟩) n c) 25
  generalize w.alloc (.cells #[.int .i64 n, .slice (some ⟨g, off, none⟩) n c] 25) = w0 at *
  have HX0 := Lib.hid x0
  have HB0 := Lib.hid b0
  clear x0 b0
  have y0_0 := HX0.out.1
  have y1_0 := HX0.out.2
  go_wp2_with fail
  refine (implTourOk n _ xs _ (HR.out.below HB0.out)).mono ?_
  rintro e w1 ⟨rfl, hb1⟩
  rw [tourB_true.2 HP.out]
  have HX1 := Lib.hid (HX0.out.below hb1)
  have HB1 := Lib.hid (Below.then HB0.out hb1)
  clear hb1 y0_0 y1_0 HX0 HB0
  have y0 := HX1.out.1
  have y1 := HX1.out.2
  have HXX : Hid (∀ j, j < n → w1.cell? ⟨g, off + j, none⟩ = some (.int .i64 (winsN xs j))) := Lib.hid fun j hj => (HB1.out.cell (p := ⟨g, off + j, none⟩) hg).trans (HX.out j hj)
  go_wp2_with fail
  refine (fmtInt_any n (by omega) w1).mono ?_
  rintro e _ ⟨rfl, rfl⟩
  have hadd := add_lists [UInt8.ofNat (48 + n)] [58] (by simp) (by simp) w1
  have HK0 : Hid (fmK xs n 0 = [UInt8.ofNat (48 + n)] ++ [58]) := Lib.hid rfl
  rw [← HK0.out] at hadd
  generalize [UInt8.ofNat (48 + n)] = L0 at *
  clear HK0
  go_wp2_with fail
  go_loop [3, 15] (fun t3 t15 => ∃ a : Nat, ∃ L : List UInt8, a ≤ n ∧ t15 = .int .i64 a ∧ t3 = .string ⟨L.toArray⟩ ∧ Hid (L = fmK xs n a)) (fun _ t15 => n - (intOf t15).toNat)
  case atStart => exact ⟨0, _, by omega, rfl, rfl, rfl⟩
  case round =>
    obtain ⟨a, L, ha, rfl, rfl, HL⟩ := hrel
    by_cases hlt : a < n
    · have zi := HXX.out a hlt
      have hw := HW.out a hlt
      have HG := Lib.hid (gmB_num xs a)
      generalize winsN xs a = W at *
      go_wp2_with fail
      go_loop [3, 5] (fun t3 t5 => ∃ (j : Nat) (M : List UInt8), a + 1 + j ≤ n ∧ t5 = .int .i64 (a + 1 + j : Nat) ∧ t3 = .string ⟨M.toArray⟩ ∧ Hid (M = fmJ xs n a j)) (fun _ t5 => n - (intOf t5).toNat)
      case atStart => exact ⟨0, _, by omega, by go_num, rfl, by rw [HL.out]; simp [Hid, fmJ, gmR]⟩
      case round =>
        obtain ⟨j, M, hj, rfl, rfl, HM⟩ := hrel
        obtain ⟨b, hb⟩ : ∃ b, b = a + 1 + j := ⟨_, rfl⟩
        have HBE := Lib.hid hb
        rw [← hb] at hj ⊢
        clear hb
        by_cases hltb : b < n
        · have hbn := bit_num W b
          have h01 := toNat_le1 (W.testBit b)
          have HN : Hid (fmJ xs n a (j + 1) = M ++ [UInt8.ofNat (48 + (W.testBit b).toNat)]) := Lib.hid (by rw [fmJ_succ, HM.out, HG.out, HBE.out])
          have hML : M.length ≤ 1000 := by rw [HM.out]; have := fmJ_len xs (n := n) (a := a) (j := j) h8 ha (by have := HBE.out; omega); omega
          generalize (W.testBit b).toNat = t at *
          have hadd := add_lists M [UInt8.ofNat (48 + t)] hML (by simp) w1
          go_wp2_with fail
          refine (fmtInt_any t (by omega) w1).mono ?_
          rintro e _ ⟨rfl, rfl⟩
          generalize [UInt8.ofNat (48 + t)] = T at *
          go_wp2
          go_round
          case rel => exact ⟨j + 1, M ++ T, by have := HBE.out; omega, by rw [show a + 1 + (j + 1) = b + 1 by have := HBE.out; omega]; go_num, rfl, HN.out.symm⟩
          case measure => simp [intOf]; omega
        · obtain rfl : b = n := by omega
          go_wp2
          go_round
          case rel => exact ⟨a + 1, M, by omega, by go_num, rfl, by rw [HM.out, ← fmJ_end]; have := HBE.out; unfold Hid; congr 1; omega⟩
          case measure => simp [intOf]; omega
    · obtain rfl : a = n := by omega
      go_wp2
      go_ret
      exact ⟨by rw [HL.out]; rfl, HB1.out⟩
end Go.Proofs.YthoodjjjklbggaaGreatDoor

namespace Go.Proofs.YthoodjjjklbggaaGreatDoor
open Go.RowKit Go.Sort Go.Maps
set_option maxRecDepth 100000
theorem strKey : Keyed Tryz.prog 9 := string_keyed Tryz.underlying9
theorem zeroInt (w : World) : (zeroValue 3).run Tryz.prog w = .ok (.int .i64 0) w := by kernel_rfl
/-- a tour's text as a key -/
def kx (n : Nat) (x : List Int) : Lit := .string (fmL x n)
theorem kx_inj {n : Nat} {x y : List Int} (hp : tourP n x) (hq : tourP n y) (h : kx n x = kx n y) : x = y := by
  unfold kx at h
  injection h with h
  exact fmL_inj hp hq h
theorem gmP_small {n : Nat} (h : n ≤ 8) : gmP n n ≤ 64 := by
  have h1 := gmP_full n
  have h2 : n * n ≤ 8 * 8 := Nat.mul_le_mul h h
  omega
theorem fmL_small {n : Nat} (x : List Int) (h : n ≤ 8) : (fmL x n).length ≤ 66 := by
  rw [fmL_len]
  have := gmP_small h
  omega
theorem kx_of {n : Nat} (x : List Int) (h : n ≤ 8) : keyOf Tryz.prog 9 (.string ⟨(fmL x n).toArray⟩) = some (kx n x) := by
  have := Go.WideMaps.keyOf_string_mk (P := Tryz.prog) Tryz.underlying9 (s := ⟨(fmL x n).toArray⟩) (by
    show (fmL x n).toArray.size ≤ maxLen
    rw [List.size_toArray]
    have := fmL_small x h
    unfold maxLen; omega)
  exact this
theorem kx_lit {n : Nat} (x : List Int) (h : n ≤ 8) : WideAt.IsKeyLit (kx n x) := by
  trivial
/-- what the datum says -/
structure MpF (D : DataW Unit) (n : Nat) (u : List Int) (K : List (List Int)) : Prop where
  isMap : IsMap D
  has : ∀ x, tourP n x → Maps.has D (kx n x) = decide (x ∈ K)
  val : ∀ x, x ∈ K → D.atKey (kx n x) (.lit (.int .i64 0)) = .lit (.int .i64 (tD n u x : Nat))
theorem MpF.add {D : DataW Unit} {n : Nat} {u x : List Int} {K : List (List Int)} (h8 : n ≤ 8) (h : MpF D n u K) (hK : ∀ y ∈ K, tourP n y) (hx : tourP n x) (hn : x ∉ K) {d : Nat} (hd : d = tD n u x) : MpF (D.put (kx n x) (.lit (.int .i64 d))) n u (K ++ [x]) := by
  refine ⟨h.isMap.put _ _, fun y hy => ?_, fun y hy => ?_⟩
  · by_cases e : y = x
    · subst e
      rw [has_put_same h.isMap (kx_lit y h8)]
      simp
    · rw [has_put_other (fun e2 => e (kx_inj hy hx e2)), h.has y hy]
      simp [e]
  · rcases List.mem_append.1 hy with hy | hy
    · have hne : kx n y ≠ kx n x := fun e2 => hn (by rw [← kx_inj (hK y hy) hx e2]; exact hy)
      rw [atKey_put_other hne]
      exact h.val y hy
    · rw [List.mem_singleton] at hy
      subst hy
      rw [atKey_put_same h.isMap (kx_lit y h8), hd]
/-- the map in block b holds the distances of the tours K -/
def MpT (w : World) (b n : Nat) (u : List Int) (K : List (List Int)) : Prop := ∃ D : DataW Unit, w.ownsMap Tryz.prog 9 (plainElem Tryz.prog 3) b K.length D ∧ MpF D n u K
theorem MpT.lt {w : World} {b n : Nat} {u : List Int} {K : List (List Int)} (h : MpT w b n u K) : b < w.heap.size := by
  obtain ⟨D, h1, -⟩ := h
  exact h1.lt
theorem MpT.below {w w' : World} {b n : Nat} {u : List Int} {K : List (List Int)} (h : MpT w b n u K) (hb : Below w.heap.size w w') : MpT w' b n u K := by
  obtain ⟨D, ⟨es, cl, h1, h2⟩, h3⟩ := h
  have hlt : b < w.heap.size := (Array.getElem?_eq_some_iff.1 h1).1
  exact ⟨D, ⟨es, cl, (hb.block b hlt).trans h1, h2⟩, h3⟩
theorem MpT.grown {w w' : World} {row : Option Nat} {b n : Nat} {u : List Int} {K : List (List Int)} (h : MpT w b n u K) (hg : w.grownBy w' row) (hne : some b ≠ row) : MpT w' b n u K := by
  obtain ⟨D, h1, h3⟩ := h
  exact ⟨D, h1.kept hg hne, h3⟩
theorem MpT.set {w : World} {b n : Nat} {u : List Int} {K : List (List Int)} (h : MpT w b n u K) {a : Addr} (ha : b ≠ a.block) (v : Value) : MpT (w.setCell a v) b n u K := by
  obtain ⟨D, h1, h3⟩ := h
  exact ⟨D, h1.setCell ha v, h3⟩
/-- a slice of cells lies in another block than the map -/
theorem MpT.ne {w : World} {b n : Nat} {u : List Int} {K : List (List Int)} (h : MpT w b n u K) {a : Addr} {k c : Nat} {x : List Int} (hr : Rd w (.slice (some a) k c) x) (h0 : 0 < x.length) : a.block ≠ b := by
  obtain ⟨D, ⟨es, cl, h1, -⟩, -⟩ := h
  obtain ⟨A', c', e, -, -, hx⟩ := hr
  obtain ⟨g, off, e2, hlt, hc⟩ := hx h0
  injection e with e _ _
  rw [e2] at e
  injection e with e
  subst e
  intro e3
  simp only at e3
  subst e3
  have := hc 0 h0
  simp [World.cell?, h1] at this
theorem MpT.look {w : World} {b n : Nat} {u x : List Int} {K : List (List Int)} (h : MpT w b n u K) (h8 : n ≤ 8) (hx : x ∈ K) : (Instr.lookup 64 (.map (some b)) (.string ⟨(fmL x n).toArray⟩) false).run Tryz.prog w = .ok (.int .i64 (tD n u x : Nat)) w := by
  obtain ⟨D, h1, h2⟩ := h
  obtain ⟨c, hrun, hat, -⟩ := h1.lookup_int strKey Tryz.underlying64 Tryz.underlying3 (zeroInt w) (kx_of x h8)
  rw [h2.val x hx] at hat
  injection hat with hat
  injection hat with _ hat
  rw [hat]
  exact hrun
/-- 'v, ok := m[text of x]' -/
theorem wp_lookup_okT {ops : Array Oper} {rest : List Oper} {o : Oper} {a : Act} {Q : Exit → Act → World → Prop} (w : World) (hgd : o.guard = none) (m k : Operand) (ho : o.op = Op.lookup 64 m k true) (b n : Nat) (h8 : n ≤ 8) (u x : List Int) (K : List (List Int)) (hx : tourP n x)
    (hm : a.eval m = .map (some b)) (h : MpT w b n u K) (hk : a.eval k = .string ⟨(fmL x n).toArray⟩)
    (hc : ∀ c : Int, (x ∈ K → c = (tD n u x : Nat)) → wpList Tryz.prog ops Q rest (a.put o.dst (.tuple #[.int .i64 c, .bool (decide (x ∈ K))])) w) : wpList Tryz.prog ops Q (o :: rest) a w := by
  obtain ⟨D, h1, h2⟩ := h
  refine wpList_lookup_own_ok_int w hgd m k _ ho 9 3 .i64 strKey Tryz.underlying64 Tryz.underlying3 (zeroInt w) b K.length D hm h1 _ (kx n x) hk (kx_of x h8) (fun c hat _ => ?_)
  have := hc c (fun hm => by
    rw [h2.val x hm] at hat
    injection hat with hat
    injection hat with _ hat
    exact hat.symm)
  rwa [← h2.has x hx] at this
/-- 'm[text of x]' -/
theorem wp_lookupT {ops : Array Oper} {rest : List Oper} {o : Oper} {a : Act} {Q : Exit → Act → World → Prop} (w : World) (hgd : o.guard = none) (m k : Operand) (ho : o.op = Op.lookup 64 m k false) (b n : Nat) (h8 : n ≤ 8) (u x : List Int) (K : List (List Int)) (hx : x ∈ K)
    (hm : a.eval m = .map (some b)) (h : MpT w b n u K) (hk : a.eval k = .string ⟨(fmL x n).toArray⟩)
    (hc : wpList Tryz.prog ops Q rest (a.put o.dst (.int .i64 (tD n u x : Nat))) w) : wpList Tryz.prog ops Q (o :: rest) a w := by
  obtain ⟨D, h1, h2⟩ := h
  refine wpList_lookup_own_int w hgd m k _ ho 9 3 .i64 strKey Tryz.underlying64 Tryz.underlying3 (zeroInt w) b K.length D hm h1 _ (kx n x) hk (kx_of x h8) (fun c hat _ => ?_)
  rw [h2.val x hx] at hat
  injection hat with hat
  injection hat with _ hat
  rwa [← hat]
/-- 'm[text of x] = its distance' -/
theorem wp_updateT {ops : Array Oper} {rest : List Oper} {o : Oper} {a : Act} {Q : Exit → Act → World → Prop} (w : World) (hgd : o.guard = none) (m k v : Operand) (ho : o.op = Op.mapUpdate 64 m k v) (b n : Nat) (h8 : n ≤ 8) (u x : List Int) (K : List (List Int)) (hKt : ∀ y ∈ K, tourP n y) (hx : tourP n x) (hn : x ∉ K) (hl : K.length ≤ 1048576)
    (hm : a.eval m = .map (some b)) (h : MpT w b n u K) (hk : a.eval k = .string ⟨(fmL x n).toArray⟩) (d : Nat) (e : Int) (hv : a.eval v = .int .i64 e) (he : e = d) (hd : d = tD n u x) (hd2 : d ≤ 1048576)
    (hc : ∀ w', MpT w' b n u (K ++ [x]) → w.grownBy w' (some b) → wpList Tryz.prog ops Q rest (a.put o.dst undef) w') : wpList Tryz.prog ops Q (o :: rest) a w := by
  subst he
  obtain ⟨D, h1, h2⟩ := h
  refine wpList_mapUpdate_own w hgd m k v _ ho 9 3 strKey Tryz.underlying64 _ b K.length D hm h1 (by unfold maxLen; omega) _ _ (kx n x) hk hv (kx_of x h8) (.lit (.int .i64 d)) [] (plainElem_int Tryz.underlying3 (WalkArith.wf_i64 (by omega))) (fun w' o1 o2 => hc w' ⟨_, by rw [List.length_append]; exact o1, h2.add h8 hKt hx hn hd⟩ o2)
/-- the first entry of a map literal -/
theorem wp_insertT {ops : Array Oper} {rest : List Oper} {o : Oper} {a : Act} {Q : Exit → Act → World → Prop} (w : World) (hgd : o.guard = none) (m k : Operand) (v : Operand) (ho : o.op = Op.insert 64 m k v) (b n : Nat) (h8 : n ≤ 8) (u : List Int) (hx : tourP n u)
    (hm : a.eval m = .map (some b)) (h : w.ownsMap (H := Unit) Tryz.prog 9 (plainElem Tryz.prog 3) b 0 (.map [])) (hk : a.eval k = .string ⟨(fmL u n).toArray⟩) (hv : a.eval v = .int .i64 0)
    (hc : ∀ w', MpT w' b n u [u] → w.grownBy w' (some b) → wpList Tryz.prog ops Q rest (a.put o.dst undef) w') : wpList Tryz.prog ops Q (o :: rest) a w := by
  refine wpList_plain hgd fun K' hK' => ?_
  obtain ⟨w', hrun, r1, r2⟩ := h.update strKey Tryz.underlying64 (by unfold maxLen; omega) (kx_of u h8) (plainElem_int (H := Unit) Tryz.underlying3 (WalkArith.wf_i64 (n := 0) (by omega)))
  have hF : MpF (.map []) n u [] := ⟨isMap_empty, fun x _ => by simp [Maps.has], fun x hx => by cases hx⟩
  unfold Oper.wp
  simp [execOp, ho, hm, hk, hv, hrun, Result.andThen]
  exact hK' _ _ (hc w' ⟨_, r1, hF.add h8 (fun y hy => by cases hy) hx (by simp) (d := 0) (tD_self n u).symm⟩ r2)
end Go.Proofs.YthoodjjjklbggaaGreatDoor

namespace Go.Proofs.YthoodjjjklbggaaGreatDoor
open Go.Shelf
def laysNm215_ren : Go.Shelf.Ren := ⟨fun | 15 => 43 | n => n, fun | 22 => 23 | 3 => 3 | 4 => 4 | n => n, fun | n => n⟩
theorem laysNm215 : Go.Proofs.Lays2.n15 Tryz.prog laysNm215_ren := {
  mixed := by kernel_rfl
  f15 := Tryz.func43.trans (congrArg some (by kernel_rfl))
  t3 := Tryz.underlying3
  a3 := Tryz.isAgg3
  z3 := Tryz.sizeOf3
  v3 := Tryz.zeroValue3
  t4 := Tryz.underlying4
  a4 := Tryz.isAgg4
  z4 := Tryz.sizeOf4
  v4 := Tryz.zeroValue4
  t22 := Tryz.underlying23
  a22 := Tryz.isAgg23
  z22 := Tryz.sizeOf23
  v22 := Tryz.zeroValue23
  i3 := by kernel_rfl }
open Go.RowKit Go.Lib in
theorem slices_Clone_int (b off n c : Nat) (zs : List Int) (w : World) (hz : n ≤ zs.length) (hbig : n * 8 ≤ 140737488355328) (hc : ∀ j, j < zs.length → w.cell? ⟨b, off + j, none⟩ = some (.int .i64 (zs.getD j 0))) :
    Calls Tryz.prog 43 #[.slice (some ⟨b, off, none⟩) n c] w fun e w' => ∃ v', e = .returned v' ∧ w'.ownsRow w.heap.size 3 1 v' n ((zs.take n).map (Value.int .i64)) ∧ v' ≠ .slice none 0 0 ∧ Below w.heap.size w w' := Any.slices_Clone_int laysNm215 b off n c zs w hz hbig hc
open Go.RowKit Go.Lib in
theorem slices_Clone_int_nil (n c : Nat) (w : World) :
    Calls Tryz.prog 43 #[.slice none n c] w fun e w' => e = .returned (.slice none 0 0) ∧ w' = w := Any.slices_Clone_int_nil laysNm215 n c w
open Go.RowKit Go.Lib in
theorem slices_Clone_int_zero (a : Addr) (c : Nat) (w : World) :
    Calls Tryz.prog 43 #[.slice (some a) 0 c] w fun e w' => ∃ v', e = .returned v' ∧ w'.ownsRow w.heap.size 3 1 v' 0 [] ∧ v' ≠ .slice none 0 0 ∧ Below w.heap.size w w' := Any.slices_Clone_int_zero laysNm215 a c w
end Go.Proofs.YthoodjjjklbggaaGreatDoor

namespace Go.Proofs.YthoodjjjklbggaaGreatDoor
open Go.RowKit Go.Sort
set_option maxRecDepth 100000
def putL (xs : List Int) : Nat → List Int → List Int
  | _, [] => xs
  | k, v :: r => putL (xs.set k v) (k + 1) r
theorem putL_eq : ∀ (vs : List Int) (k : Nat) (xs : List Int), k + vs.length ≤ xs.length → putL xs k vs = xs.take k ++ vs ++ xs.drop (k + vs.length) := by
  intro vs
  induction vs with
  | nil => intro k xs _; simp [putL]
  | cons v r ih =>
    intro k xs h
    simp only [List.length_cons] at h
    rw [putL, ih (k + 1) (xs.set k v) (by rw [List.length_set]; omega)]
    have hk : k < xs.length := by omega
    rw [List.take_succ_eq_append_getElem (by rw [List.length_set]; exact hk), List.getElem_set_self, List.take_set_of_le (Nat.le_refl k), List.drop_set_of_lt (by omega)]
    simp only [List.length_cons, List.append_assoc, List.cons_append, List.nil_append, show k + (r.length + 1) = k + 1 + r.length by omega]
theorem own_setCells {base g n c : Nat} : ∀ (vs : List Int) (k : Nat) (w : World) (xs : List Int), Own w base (.slice (some ⟨g, 0, none⟩) n c) xs → xs.length = n →
    Own (w.setCells g k (vs.map (Value.int .i64))) base (.slice (some ⟨g, 0, none⟩) n c) (putL xs k vs) ∧ ∀ (B : Nat) (a : World), B ≤ base → Below B a w → Below B a (w.setCells g k (vs.map (Value.int .i64))) := by
  intro vs
  induction vs with
  | nil => intro k w xs h _; exact ⟨h, fun _ _ _ h => h⟩
  | cons v r ih =>
    intro k w xs h hl
    obtain ⟨h1, h2⟩ := h.set_ hl k v
    obtain ⟨h3, h4⟩ := ih (k + 1) _ _ h1 (by rw [List.length_set]; exact hl)
    refine ⟨h3, fun B a hB hb => h4 B a hB ?_⟩
    have hg := (h.lt g rfl)
    exact hb.grown h2 (by omega) (fun q e => by injection e with e; omega)
end Go.Proofs.YthoodjjjklbggaaGreatDoor

namespace Go.Proofs.YthoodjjjklbggaaGreatDoor
open Go.Shelf
end Go.Proofs.YthoodjjjklbggaaGreatDoor

namespace Go.Proofs.YthoodjjjklbggaaGreatDoor
open Go.RowKit Go.Sort
set_option maxRecDepth 100000
def putV (xs : List Value) : Nat → List Value → List Value
  | _, [] => xs
  | k, v :: r => putV (xs.set k v) (k + 1) r
theorem putV_len : ∀ (vs : List Value) (k : Nat) (xs : List Value), (putV xs k vs).length = xs.length := by
  intro vs
  induction vs with
  | nil => intro k xs; rfl
  | cons v r ih => intro k xs; rw [putV, ih, List.length_set]
theorem putV_eq : ∀ (vs : List Value) (k : Nat) (xs : List Value), k + vs.length ≤ xs.length → putV xs k vs = xs.take k ++ vs ++ xs.drop (k + vs.length) := by
  intro vs
  induction vs with
  | nil => intro k xs _; simp [putV]
  | cons v r ih =>
    intro k xs h
    simp only [List.length_cons] at h
    rw [putV, ih (k + 1) (xs.set k v) (by rw [List.length_set]; omega)]
    have hk : k < xs.length := by omega
    rw [List.take_succ_eq_append_getElem (by rw [List.length_set]; exact hk), List.getElem_set_self, List.take_set_of_le (Nat.le_refl k), List.drop_set_of_lt (by omega)]
    simp only [List.length_cons, List.append_assoc, List.cons_append, List.nil_append, show k + (r.length + 1) = k + 1 + r.length by omega]
theorem grownT {a b c : World} {row : Option Nat} (h : a.grownBy b row) (k : b.grownBy c row) : a.grownBy c row :=
  ⟨k.os.trans h.os, k.tape.trans h.tape, k.output.trans h.output, Nat.le_trans h.size k.size, fun i hi hne => (k.block i (Nat.lt_of_lt_of_le hi h.size) hne).trans (h.block i hi hne)⟩
theorem owns_setCells {base g n c : Nat} {e : TypeId} : ∀ (vs : List Value) (k : Nat) (w : World) (xs : List Value), w.ownsRow base e 1 (.slice (some ⟨g, 0, none⟩) n c) n xs →
    (w.setCells g k vs).ownsRow base e 1 (.slice (some ⟨g, 0, none⟩) n c) n (putV xs k vs) ∧ w.grownBy (w.setCells g k vs) (some g) := by
  intro vs
  induction vs with
  | nil => intro k w xs h; exact ⟨h, ⟨rfl, rfl, rfl, Nat.le_refl _, fun _ _ _ => rfl⟩⟩
  | cons v r ih =>
    intro k w xs h
    have h1 := World.ownsRow.stored h k v
    have h2 := ih (k + 1) _ _ h1.1
    exact ⟨h2.1, grownT h1.2 h2.2⟩
/-- the row one cell longer, whatever stands there -/
theorem owns_more {w : World} {base g n c : Nat} {e : TypeId} {xs : List Value} (h : w.ownsRow base e 1 (.slice (some ⟨g, 0, none⟩) n c) n xs) (hc : n + 1 ≤ c) : ∃ u, w.ownsRow base e 1 (.slice (some ⟨g, 0, none⟩) (n + 1) c) (n + 1) (xs ++ [u]) := by
  obtain ⟨hl, ⟨h0, _⟩ | ⟨g', cap, cur, e1, hb, hg, hle, hm, hs, ht⟩⟩ := h
  · cases h0
  · injection e1 with e1 _ e3
    injection e1 with e1
    injection e1 with e1 _ _
    subst e1 e3
    rw [Nat.mul_one] at hl hs ht
    have hlt : n < cur.toList.length := by rw [Array.length_toList]; omega
    refine ⟨cur.toList[n], ⟨by rw [List.length_append, hl]; simp, .inr ⟨g, c, cur, rfl, hb, hg, hc, hm, by rw [Nat.mul_one]; exact hs, ?_⟩⟩⟩
    rw [Nat.mul_one, List.take_succ_eq_append_getElem hlt, ht]
/-- a new block whose first cells are these -/
theorem owns_new {w : World} {base n c : Nat} {e : TypeId} {cur : Array Value} {xs : List Value} (hb : base ≤ w.heap.size) (hn : n ≤ c) (hm : c ≤ maxLen) (hs : cur.size = c) (hx : cur.toList.take n = xs) :
    (w.alloc (.cells cur e)).ownsRow base e 1 (.slice (some ⟨w.heap.size, 0, none⟩) n c) n xs :=
  ⟨by rw [← hx, List.length_take, Array.length_toList]; omega, .inr ⟨w.heap.size, c, cur, rfl, hb, heap_alloc_new w _, hn, hm, by rw [Nat.mul_one]; exact hs, by rw [Nat.mul_one]; exact hx⟩⟩
theorem alloc_grown (w : World) (o : Obj) (row : Option Nat) : w.grownBy (w.alloc o) row := World.grownBy_alloc w o row
theorem drew_grown (w : World) (row : Option Nat) : w.grownBy w.drew row := ⟨rfl, rfl, rfl, Nat.le_refl _, fun _ _ _ => rfl⟩
theorem zero_size (k : Nat) : (Builtin.zeroCells (Value.int .i64 0).cells k).size = k := by
  rw [size_zeroCells]
  show k * 1 = k
  omega
theorem insL_eq (cs : List Value) (u y : Value) {n i : Nat} (hl : cs.length = n) (hi : i ≤ n) : putV (putV (cs ++ [u]) (i + 1) (cs.drop i)) i [y] = cs.take i ++ y :: cs.drop i := by
  have hd : (cs.drop i).length = n - i := by rw [List.length_drop, hl]
  have e0 : putV (cs ++ [u]) (i + 1) (cs.drop i) = (cs ++ [u]).take (i + 1) ++ cs.drop i := by
    rw [putV_eq _ _ _ (by rw [hd, List.length_append, hl, List.length_singleton]; omega)]
    have e1 : (cs ++ [u]).drop (i + 1 + (cs.drop i).length) = [] := by
      rw [List.drop_eq_nil_iff, List.length_append, hd, hl, List.length_singleton]; omega
    rw [e1, List.append_nil]
  have hA : ((cs ++ [u]).take (i + 1)).length = i + 1 := by rw [List.length_take, List.length_append, hl, List.length_singleton]; omega
  rw [e0, putV_eq _ _ _ (by rw [List.length_append, hA, hd, List.length_singleton]; omega)]
  have e2 : ((cs ++ [u]).take (i + 1) ++ cs.drop i).take i = cs.take i := by
    have h1 : i ≤ ((cs ++ [u]).take (i + 1)).length := by omega
    have h2 : i ≤ cs.length := by omega
    rw [List.take_append_of_le_length h1, List.take_take, Nat.min_eq_left (Nat.le_succ i), List.take_append_of_le_length h2]
  have e3 : ((cs ++ [u]).take (i + 1) ++ cs.drop i).drop (i + [y].length) = cs.drop i := by
    have h1 : i + [y].length = ((cs ++ [u]).take (i + 1)).length := by rw [hA]; rfl
    rw [h1, List.drop_left]
  rw [e2, e3]
  simp
theorem insL_eq2 (cs zs : List Value) (y : Value) {n i : Nat} (hl : cs.length = n) (hi : i ≤ n) (hz : zs.length = n + 1 - i) : putV (putV (cs.take i ++ zs) i [y]) (i + 1) (cs.drop i) = cs.take i ++ y :: cs.drop i := by
  have hci : (cs.take i).length = i := by rw [List.length_take]; omega
  rw [putV_eq [y] _ _ (by simp; omega)]
  rw [show i + [y].length = i + 1 from rfl]
  have e1 : (cs.take i ++ zs).take i = cs.take i := by rw [List.take_append_of_le_length (by omega), List.take_of_length_le (by omega)]
  rw [e1]
  have hlen : (cs.take i ++ [y] ++ (cs.take i ++ zs).drop (i + 1)).length = n + 1 := by
    simp only [List.length_append, List.length_drop, List.length_take, List.length_singleton]; omega
  rw [putV_eq _ _ _ (by rw [hlen, List.length_drop]; omega)]
  have e2 : (cs.take i ++ [y] ++ (cs.take i ++ zs).drop (i + 1)).drop (i + 1 + (cs.drop i).length) = [] := by
    rw [List.drop_eq_nil_iff, hlen, List.length_drop]; omega
  rw [e2, List.append_nil, List.take_append_of_le_length (by simp; omega), List.take_of_length_le (by simp; omega)]
  simp
theorem insN_map (xs : List Int) (y : Int) (i : Nat) : (xs.take i ++ y :: xs.drop i).map (Value.int .i64) = (xs.map (Value.int .i64)).take i ++ Value.int .i64 y :: (xs.map (Value.int .i64)).drop i := by
  rw [List.map_append, List.map_cons, List.map_take, List.map_drop]
theorem ins_len (xs : List Int) (y : Int) {n i : Nat} (hl : xs.length = n) (hi : i ≤ n) : (xs.take i ++ y :: xs.drop i).length = n + 1 := by
  simp; omega
end Go.Proofs.YthoodjjjklbggaaGreatDoor

namespace Go.Proofs.YthoodjjjklbggaaGreatDoor
open Go.RowKit Go.Sort
set_option maxRecDepth 100000
/-- the order with player number i moved to place p -/
def candL (l : List Nat) (i p : Nat) : List Nat := (l.eraseIdx i).take p ++ l.getD i 0 :: (l.eraseIdx i).drop p
theorem cand_perm {l : List Nat} {i p : Nat} (hi : i < l.length) : (candL l i p).Perm l := by
  unfold candL
  refine List.perm_middle.trans ?_
  rw [List.take_append_drop, List.eraseIdx_eq_take_drop_succ, getD_nat hi]
  refine List.perm_middle.symm.trans ?_
  rw [← List.drop_eq_getElem_cons hi, List.take_append_drop]
theorem cand_ord {n : Nat} {l : List Nat} (hl : l ∈ ordL n) {i p : Nat} (hi : i < n) : candL l i p ∈ ordL n := by
  obtain ⟨h1, h2, h3⟩ := mem_ordL.1 hl
  have hp := cand_perm (p := p) (l := l) (i := i) (by omega)
  exact mem_ordL.2 ⟨by rw [hp.length_eq]; exact h1, fun x hx => h2 x (hp.mem_iff.1 hx), hp.nodup_iff.2 h3⟩
theorem erase_nI (l : List Nat) (i : Nat) : (nI l).eraseIdx i = nI (l.eraseIdx i) := by
  unfold nI
  rw [List.eraseIdx_eq_take_drop_succ, List.eraseIdx_eq_take_drop_succ, List.map_append, List.map_take, List.map_drop]
theorem cand_nI (l : List Nat) (i p : Nat) : (nI (l.eraseIdx i)).take p ++ ((l.getD i 0 : Nat) : Int) :: (nI (l.eraseIdx i)).drop p = nI (candL l i p) := by
  unfold nI candL
  rw [List.map_append, List.map_cons, List.map_take, List.map_drop]
theorem getD_nI' (l : List Nat) (i : Nat) : (l.map fun (a : Nat) => (a : Int)).getD i 0 = ((l.getD i 0 : Nat) : Int) := by
  rw [List.getD_eq_getElem?_getD, List.getElem?_map, List.getD_eq_getElem?_getD]
  cases l[i]? <;> rfl
/-- no move of one player makes it better -/
def settled (r : Nat → Nat → Bool) (n : Nat) (l : List Nat) : Prop := ∀ i, i < n → ∀ p, p < n → revN r l ≤ revN r (candL l i p)
set_option maxHeartbeats 400000 in
theorem clone_own (base g n c : Nat) (xs : List Int) (w : World) (h : Own w base (.slice (some ⟨g, 0, none⟩) n c) xs) (hl : xs.length = n) (hn : n ≤ 1048576) :
    Calls Tryz.prog 43 #[.slice (some ⟨g, 0, none⟩) n c] w fun e w' => ∃ v', e = .returned v' ∧ Own w' w.heap.size v' xs ∧ Below w.heap.size w w' := by
  have hg : g < w.heap.size := (h.lt g rfl).2
  have hx' : ∀ k, k < xs.length → (w.alloc (.cells #[] 3)).cell? ((⟨g, 0, none⟩ : Addr).add k) = some (.int .i64 (xs.getD k 0)) := fun k hk => by
    rw [Addr.add_lit, World.cell?_alloc_lt _ _ _ (by exact hg), Nat.zero_add]
    exact (h.at0 hl (by omega)).1 k (by omega)
  have HX := Lib.hid hx'
  have ho := Own.lit w w.heap.size [] (Nat.le_refl _) (by simp)
  have HO := Lib.hid ho
  have HN := Lib.hid hl
  clear hx' ho h
  have e0 : ∀ w : World, (binOp .eql 23 (.slice (some ⟨g, 0, none⟩) n c) (.slice none 0 0)).run Tryz.prog w = .ok (.bool false) w := fun _ => by kernel_rfl
  go_enter Tryz.func43, Tryz.ntmps43
  go_wp2_with (at_builtin; refine wp_appendN (w.alloc (.cells #[] 3)) rfl (.tmp 5) (.tmp 6) rfl w.heap.size _ [] rfl HO.out ⟨g, 0, none⟩ c xs (by rw [HN.out]; simp [Act.eval]) HX.out (by simp; omega) (by simp) ?_; intro v' w' ho hgr; have HO2 := Lib.hid ho; have HG2 := Lib.hid hgr; clear ho hgr)
  go_ret
  exact ⟨_, rfl, by simpa using HO2.out, Below.grown (below_alloc1 w _) HG2.out (by simp) (fun k hk => (HO.out.lt k hk).1)⟩
variable {n : Nat} {sl ov : Value} {xs : List Int} {w : World} {l : List Nat}
end Go.Proofs.YthoodjjjklbggaaGreatDoor

namespace Go.Proofs.YthoodjjjklbggaaGreatDoor
open Go.RowKit Go.Sort
set_option maxRecDepth 100000
def flR (ys : List Int) (r : List Int) : List Int := flipL ys (r.getD 0 0).toNat (r.getD 1 0).toNat
/-- the games of the rows reversed -/
def strL (xs : List Int) (rows : List (List Int)) : List Int := rows.foldl flR xs
theorem strL_snoc (xs : List Int) (rows : List (List Int)) (r : List Int) : strL xs (rows ++ [r]) = flR (strL xs rows) r := by simp [strL]
theorem pair_mem {P : List (List Int)} {a b x y : Nat} : ([(x : Int), (y : Int)] ∈ P ++ [[(a : Int), (b : Int)]]) ↔ ([(x : Int), (y : Int)] ∈ P ∨ (x = a ∧ y = b)) := by
  rw [List.mem_append, List.mem_singleton]
  constructor
  · rintro (h | h)
    · exact .inl h
    · injection h with h1 h2
      injection h2 with h2 _
      exact .inr ⟨by omega, by omega⟩
  · rintro (h | ⟨rfl, rfl⟩)
    · exact .inl h
    · exact .inr rfl
open Classical in
theorem str_law {n : Nat} {xs : List Int} (hp : tourP n xs) : ∀ (rows rest : List (List Int)), (∀ r ∈ rows, ∃ a b : Nat, a < n ∧ b < n ∧ r = [(a : Int), (b : Int)] ∧ bt xs a b = true) → rows.Nodup →
    tourP n (strL xs rows) ∧ ∀ x y, x < n → y < n → bt (strL xs rows) x y = (bt xs x y ^^ decide ([(x : Int), (y : Int)] ∈ rows ∨ [(y : Int), (x : Int)] ∈ rows)) := by
  intro rows rest
  clear rest
  have key : ∀ (k : Nat), k ≤ rows.length → (∀ r ∈ rows, ∃ a b : Nat, a < n ∧ b < n ∧ r = [(a : Int), (b : Int)] ∧ bt xs a b = true) → rows.Nodup →
      tourP n (strL xs (rows.take k)) ∧ ∀ x y, x < n → y < n → bt (strL xs (rows.take k)) x y = (bt xs x y ^^ decide ([(x : Int), (y : Int)] ∈ rows.take k ∨ [(y : Int), (x : Int)] ∈ rows.take k)) := by
    intro k
    induction k with
    | zero => intro _ _ _; exact ⟨by simpa [strL] using hp, fun x y _ _ => by simp [strL]⟩
    | succ k ih =>
      intro hk hr hn
      obtain ⟨i1, i2⟩ := ih (by omega) hr hn
      have hkl : k < rows.length := by omega
      rw [List.take_succ_eq_append_getElem hkl]
      obtain ⟨a, b, ha, hb, e, hab⟩ := hr rows[k] (List.getElem_mem hkl)
      have hne := (bt_asym hp ha hb hab)
      have hnk : rows[k] ∉ rows.take k := fun hm => by
        rw [List.mem_iff_getElem] at hm
        obtain ⟨j, hj, ej⟩ := hm
        rw [List.length_take] at hj
        rw [List.getElem_take] at ej
        exact List.pairwise_iff_getElem.1 hn j k (by omega) hkl (by omega) ej
      rw [e] at hnk ⊢
      have hnk2 : [(b : Int), (a : Int)] ∉ rows.take k := fun hm => by
        obtain ⟨c, d, -, -, e2, h2⟩ := hr _ (List.mem_of_mem_take hm)
        injection e2 with e3 e4
        injection e4 with e4 _
        have h3 : c = b := by omega
        have h4 : d = a := by omega
        subst h3 h4
        rw [hne.1] at h2; cases h2
      rw [strL_snoc]
      have efl : flR (strL xs (rows.take k)) [(a : Int), (b : Int)] = flipL (strL xs (rows.take k)) a b := rfl
      rw [efl]
      refine ⟨flip_tourN i1 ha hb hne.2, fun x y hx hy => ?_⟩
      rw [flip_btN i1 ha hb hne.2 hx, i2 x y hx hy, Bool.xor_assoc]
      congr 1
      by_cases h1 : x = a ∧ y = b
      · obtain ⟨rfl, rfl⟩ := h1
        have d1 : decide ([(x : Int), (y : Int)] ∈ rows.take k ∨ [(y : Int), (x : Int)] ∈ rows.take k) = false := decide_eq_false (by simp [hnk, hnk2])
        rw [d1, decide_eq_true (.inl (pair_mem.2 (.inr ⟨rfl, rfl⟩)))]
        simp
      · by_cases h2 : x = b ∧ y = a
        · obtain ⟨rfl, rfl⟩ := h2
          have d1 : decide ([(x : Int), (y : Int)] ∈ rows.take k ∨ [(y : Int), (x : Int)] ∈ rows.take k) = false := decide_eq_false (by simp [hnk, hnk2])
          rw [d1, decide_eq_true (.inr (pair_mem.2 (.inr ⟨rfl, rfl⟩)))]
          simp
        · have e1 : ((x == a && y == b) || (x == b && y == a)) = false := by
            rw [Bool.or_eq_false_iff, Bool.and_eq_false_iff, Bool.and_eq_false_iff]
            simp only [beq_eq_false_iff_ne]
            omega
          rw [e1, Bool.xor_false]
          rw [decide_eq_decide, pair_mem, pair_mem]
          constructor
          · rintro (h | h)
            · exact .inl (.inl h)
            · exact .inr (.inl h)
          · rintro ((h | h) | (h | h))
            · exact .inl h
            · exact absurd h h1
            · exact .inr h
            · exact absurd ⟨h.2, h.1⟩ h2
  intro hr hn
  have := key rows.length (Nat.le_refl _) hr hn
  rwa [List.take_length] at this
/-- the rows' order -/
def rowK (r : List Int) : Int := r.getD 0 0 * 100 + r.getD 1 0
theorem bg_sorted (r : Nat → Nat → Bool) {n : Nat} (hn : n ≤ 50) (l : List Nat) : (bgN r n l).Pairwise fun x y => rowK x < rowK y := by
  unfold bgN bgTo
  rw [List.pairwise_flatMap]
  refine ⟨fun a ha => ?_, ?_⟩
  · unfold bgIn
    rw [List.pairwise_map]
    refine List.Pairwise.imp ?_ (List.Pairwise.filter _ List.pairwise_lt_range)
    intro b c h
    have e1 : rowK [(a : Int), (b : Int)] = (a : Int) * 100 + b := rfl
    have e2 : rowK [(a : Int), (c : Int)] = (a : Int) * 100 + c := rfl
    rw [e1, e2]; omega
  · refine List.Pairwise.imp ?_ List.pairwise_lt_range
    intro a b hab x hx y hy
    unfold bgIn at hx hy
    rw [List.mem_map] at hx hy
    obtain ⟨c, hc, rfl⟩ := hx
    obtain ⟨d, hd, rfl⟩ := hy
    have hc := List.mem_range.1 (List.mem_filter.1 hc).1
    have hd := List.mem_range.1 (List.mem_filter.1 hd).1
    have e1 : rowK [(a : Int), (c : Int)] = (a : Int) * 100 + c := rfl
    have e2 : rowK [(b : Int), (d : Int)] = (b : Int) * 100 + d := rfl
    rw [e1, e2]; omega
theorem bg_nodup (r : Nat → Nat → Bool) {n : Nat} (hn : n ≤ 50) (l : List Nat) : (bgN r n l).Nodup :=
  (bg_sorted r hn l).imp fun h e => by subst e; omega
/-- a straightened tour: who stands ahead beats who stands behind -/
theorem straight {n : Nat} {xs : List Int} (hp : tourP n xs) {l : List Nat} (hl : l ∈ ordL n) :
    tourP n (strL xs (bgN (bt xs) n l)) ∧ ∀ x y, x < n → y < n → bt (strL xs (bgN (bt xs) n l)) x y = decide (l.idxOf x < l.idxOf y) := by
  have h8 : n ≤ 8 := by have := hp.1; omega
  obtain ⟨h1, h2⟩ := str_law hp (bgN (bt xs) n l) [] (fun r hr => by
    obtain ⟨a, b, ha, hb, hq, e⟩ := bgN_mem.1 hr
    unfold bgP at hq
    rw [Bool.and_eq_true] at hq
    exact ⟨a, b, ha, hb, e, hq.1⟩) (bg_nodup _ (by omega) l)
  refine ⟨h1, fun x y hx hy => ?_⟩
  rw [h2 x y hx hy]
  have hm : ∀ x y, x < n → y < n → ([(x : Int), (y : Int)] ∈ bgN (bt xs) n l ↔ bt xs x y = true ∧ l.idxOf y < l.idxOf x) := fun x y hx hy => by
    rw [bgN_mem]
    constructor
    · rintro ⟨a, b, ha, hb, hq, e⟩
      injection e with e1 e2
      injection e2 with e2 _
      have h3 : a = x := by omega
      have h4 : b = y := by omega
      subst h3 h4
      unfold bgP at hq
      rw [Bool.and_eq_true, decide_eq_true_eq] at hq
      exact hq
    · rintro ⟨q1, q2⟩
      exact ⟨x, y, hx, hy, by unfold bgP; rw [q1, decide_eq_true q2]; rfl, rfl⟩
  by_cases hxy : x = y
  · subst hxy
    have := bt_irr hp x
    rw [this]
    simp [hm x x hx hx, this]
  · have hidx : l.idxOf x ≠ l.idxOf y := fun e => by
      have mx := ord_all hl hx
      have my := ord_all hl hy
      have ix := List.idxOf_lt_length_iff.2 mx
      have iy := List.idxOf_lt_length_iff.2 my
      have e1 := List.getElem_idxOf ix
      have e2 := List.getElem_idxOf iy
      apply hxy
      rw [← e1, ← e2]
      congr 1
    have hf := (tour_bits hp).2.2 x y (by rw [tour_len hp]; exact hx) (by rw [tour_len hp]; exact hy) hxy
    rcases q : bt xs x y with _ | _
    · have q2 : bt xs y x = true := by rw [q] at hf; simpa using hf.symm
      have : decide ([(x : Int), (y : Int)] ∈ bgN (bt xs) n l ∨ [(y : Int), (x : Int)] ∈ bgN (bt xs) n l) = decide (l.idxOf x < l.idxOf y) := by
        rw [decide_eq_decide, hm x y hx hy, hm y x hy hx, q, q2]; simp
      rw [this]; simp
    · have q2 : bt xs y x = false := by rw [q] at hf; simpa using hf.symm
      have : decide ([(x : Int), (y : Int)] ∈ bgN (bt xs) n l ∨ [(y : Int), (x : Int)] ∈ bgN (bt xs) n l) = decide (l.idxOf y < l.idxOf x) := by
        rw [decide_eq_decide, hm x y hx hy, hm y x hy hx, q, q2]; simp
      rw [this]
      by_cases h : l.idxOf y < l.idxOf x
      · rw [decide_eq_true h, decide_eq_false (by omega)]; rfl
      · rw [decide_eq_false h, decide_eq_true (by omega)]; rfl
theorem straight_zero {n : Nat} {xs : List Int} (hp : tourP n xs) {l : List Nat} (hl : l ∈ ordL n) : revN (bt (strL xs (bgN (bt xs) n l))) l = 0 := by
  rw [← bgN_len hl, List.length_eq_zero_iff, List.eq_nil_iff_forall_not_mem]
  intro x hx
  obtain ⟨a, b, ha, hb, hq, -⟩ := bgN_mem.1 hx
  unfold bgP at hq
  rw [Bool.and_eq_true, (straight hp hl).2 a b ha hb, decide_eq_true_eq, decide_eq_true_eq] at hq
  omega
theorem straight_trans {n : Nat} {xs : List Int} (hp : tourP n xs) {l : List Nat} (hl : l ∈ ordL n) : transP (strL xs (bgN (bt xs) n l)) n := by
  intro a b c ha hb hc h1 h2
  rw [(straight hp hl).2 _ _ ha hb, decide_eq_true_eq] at h1
  rw [(straight hp hl).2 _ _ hb hc, decide_eq_true_eq] at h2
  rw [(straight hp hl).2 _ _ ha hc, decide_eq_true_eq]
  omega
end Go.Proofs.YthoodjjjklbggaaGreatDoor

namespace Go.Proofs.YthoodjjjklbggaaGreatDoor
open Go.RowKit Go.Sort
set_option maxRecDepth 100000
/-- an own slice of slices that lie in an older world -/
def OwnHd (wB w : World) (v : Value) (rows : List (List Int)) : Prop :=
  ∃ us : List Value, us.length = rows.length ∧ w.ownsRow wB.heap.size 23 1 v rows.length us ∧ ∀ k, k < rows.length → Rd wB (us.getD k (.slice none 0 0)) (rows.getD k [])
theorem OwnHd.nil_ (wB w : World) : OwnHd wB w (.slice none 0 0) [] := ⟨[], rfl, World.ownsRow_nil _ _ _ _, fun k h => absurd h (by simp)⟩
theorem OwnHd.below {wB w w' : World} {v : Value} {rows : List (List Int)} (h : OwnHd wB w v rows) (hb : Below w.heap.size w w') : OwnHd wB w' v rows := by
  obtain ⟨us, h1, h2, h3⟩ := h
  exact ⟨us, h1, ownsRow_below h2 hb, h3⟩
theorem OwnHd.lt {wB w : World} {v : Value} {rows : List (List Int)} (h : OwnHd wB w v rows) : ∀ k, v.ownBlock = some k → wB.heap.size ≤ k ∧ k < w.heap.size := by
  obtain ⟨us, h1, h2, h3⟩ := h
  exact World.ownsRow.lt h2
theorem OwnHd.rdr {wB w : World} {v : Value} {rows : List (List Int)} (h : OwnHd wB w v rows) (hb : Below wB.heap.size wB w) : RdRows w v rows := by
  obtain ⟨us, hl, ho, hr⟩ := h
  have hlt := World.ownsRow.lt ho
  have hc := fun g hg => World.ownsRow.cells ho (g := g) hg
  rcases ho.2 with ⟨rfl, e⟩ | ⟨g, cap, cur, rfl, hbb, hg, hle, hm, _⟩
  · exact ⟨none, 0, by rw [e], by unfold maxLen; omega, by omega, fun h => absurd h (by omega)⟩
  · refine ⟨_, cap, rfl, hm, hle, fun _ => ⟨g, rfl, (hlt g rfl).2, fun k hk => ?_⟩⟩
    have h1 := hc g rfl k (us.getD k (.slice none 0 0)) (by simp [show k < us.length by omega])
    rw [Addr.add_lit, Nat.zero_add] at h1
    exact ⟨_, h1, (hr k hk).below hb⟩
theorem wp_append1H {ops : Array Oper} {rest : List Oper} {o : Oper} {a : Act} {Q : Exit → Act → World → Prop} (w : World) (hgd : o.guard = none) (s x : Operand)
    (ho : o.op = .call { callee := .builtin .append, args := #[s, x], argTypes := #[27, 27] })
    (wB : World) (v : Value) (rows : List (List Int)) (u : Value) (xs : List Int) (hs : a.eval s = v) (hown0 : OwnHd wB w v rows) (hb0 : wB.heap.size ≤ w.heap.size) (hu0 : Rd wB u xs) (hx : a.eval x = .slice (some ⟨w.heap.size, 0, none⟩) 1 1)
    (hlen : rows.length ≤ 1048576)
    (h : ∀ v' w', OwnHd wB w' v' (rows ++ [xs]) → w.grownBy w' v.ownBlock → wpList Tryz.prog ops Q rest (a.put o.dst v') w') :
    wpList Tryz.prog ops Q (o :: rest) a (w.alloc (.cells #[u] 23)) := by
  obtain ⟨i0, hi, hz0, hz1, hz2⟩ := info_parts rows_info
  obtain ⟨us, hl, hor, hr⟩ := hown0
  have hor' : (w.alloc (.cells #[u] 23)).ownsRow wB.heap.size 23 1 v rows.length us := World.ownsRow.alloc hor _
  refine wpList_append_own _ hgd s x 27 ho wB.heap.size 23 i0 (.slice none 0 0) 1 24 Tryz.underlying27 hi hz0 hz1 hz2 rfl (by decide) v rows.length us hs hor' ⟨w.heap.size, 0, none⟩ 1 1 [u] hx rfl ?_ ?_ ?_ ?_ ?_ ?_
  · intro j y hj
    match j, hj with
    | 0, hj => simp at hj; subst hj; simp [Addr.add]
  · intro y hy
    simp at hy
    subst hy
    obtain ⟨B, d, e, _⟩ := hu0
    rw [e]; rfl
  · unfold maxLen; omega
  · omega
  · simp; omega
  · intro v' w' h1 h2 _
    have h2' := grown_of_alloc h2
    refine h v' w' ⟨us ++ [u], by simp [hl], by rw [List.length_append]; exact h1, fun k hk => ?_⟩ h2'
    rw [List.length_append, List.length_singleton] at hk
    by_cases hk2 : k < rows.length
    · have e1 : (us ++ [u]).getD k (.slice none 0 0) = us.getD k (.slice none 0 0) := by simp [List.getD_eq_getElem?_getD, List.getElem?_append_left (show k < us.length by omega)]
      have e3 : (rows ++ [xs]).getD k [] = rows.getD k [] := by simp [List.getD_eq_getElem?_getD, List.getElem?_append_left hk2]
      rw [e1, e3]
      exact hr k hk2
    · obtain rfl : k = rows.length := by omega
      have e2 : (us ++ [u]).getD rows.length (.slice none 0 0) = u := by simp [List.getD_eq_getElem?_getD, ← hl]
      have e3 : (rows ++ [xs]).getD rows.length [] = xs := by simp [List.getD_eq_getElem?_getD]
      rw [e2, e3]
      exact hu0
/-- the first row that p holds of -/
def findV (p : List Int → Bool) (xs : List (List Int)) : Int := match xs.findIdx? p with | some i => i | none => -1
theorem findV_hit {p : List Int → Bool} {xs : List (List Int)} {k : Nat} (hk : k < xs.length) (hp : p (xs.getD k []) = true) (hn : ∀ x ∈ xs.take k, p x = false) : findV p xs = k := by
  have e : xs.getD k [] = xs[k] := by simp [List.getD_eq_getElem?_getD, hk]
  rw [e] at hp
  unfold findV
  have : xs.findIdx? p = some k := by
    rw [List.findIdx?_eq_some_iff_getElem]
    refine ⟨hk, hp, fun j hj => ?_⟩
    rw [Bool.not_eq_true]
    exact hn _ (by rw [List.mem_iff_getElem]; exact ⟨j, by rw [List.length_take]; omega, by rw [List.getElem_take]⟩)
  rw [this]
theorem findV_miss {p : List Int → Bool} {xs : List (List Int)} (hn : ∀ x ∈ xs, p x = false) : findV p xs = -1 := by
  unfold findV
  rw [List.findIdx?_eq_none_iff.2 hn]
theorem findV_any (p : List Int → Bool) (xs : List (List Int)) : decide (0 ≤ findV p xs) = xs.any p := by
  unfold findV
  rcases h : xs.findIdx? p with _ | k
  · rw [List.findIdx?_eq_none_iff] at h
    have : xs.any p = false := by rw [List.any_eq_false]; intro x hx; rw [h x hx]; decide
    rw [this]; rfl
  · rw [List.findIdx?_eq_some_iff_getElem] at h
    obtain ⟨hk, hp, -⟩ := h
    have : xs.any p = true := by rw [List.any_eq_true]; exact ⟨_, List.getElem_mem hk, hp⟩
    rw [this]; simp
theorem findV_step {p : List Int → Bool} {xs : List (List Int)} {k : Nat} (hk : k < xs.length) (hp : p (xs.getD k []) = false) (h : ∀ x ∈ xs.take k, p x = false) : ∀ x ∈ xs.take (k + 1), p x = false := by
  have e : xs.getD k [] = xs[k] := by simp [List.getD_eq_getElem?_getD, hk]
  rw [e] at hp
  rw [List.take_succ_eq_append_getElem hk]
  intro x hx
  rw [List.mem_append, List.mem_singleton] at hx
  rcases hx with hx | rfl
  · exact h x hx
  · exact hp
set_option maxHeartbeats 1000000 in
theorem indexFuncV_any (F : FuncId) (caps : Array Value) (hE : Enters F) (v : Value) (rows : List (List Int)) (p : List Int → Bool) (w : World) (h : RdRows w v rows) (hlen : rows.length ≤ 1048576)
    (hf : ∀ k, k < rows.length → ∀ u w', Below w.heap.size w w' → Rd w' u (rows.getD k []) → Calls Tryz.prog F (#[u] ++ caps) w' fun e w'' => e = .returned (.bool (p (rows.getD k []))) ∧ Below w'.heap.size w' w'') :
    Calls Tryz.prog 65 #[v, .func (.func F) #[] caps] w fun e w' => e = .returned (.int .i64 (findV p rows)) ∧ Below w.heap.size w w' := by
  obtain ⟨A, c, rfl, hm1, hl1, hc1⟩ := h
  unfold maxLen at hm1
  generalize hn : rows.length = n at *
  have H1 := Lib.hid hn
  have H3 := Lib.hid hc1
  have HF := Lib.hid hf
  clear hn hc1 hf
  have hE' : ∀ (args : Array Value) (W : World), (callFunc F args).run Tryz.prog W = .ok (.enter F args) W := hE
  go_enter Tryz.func65, Tryz.ntmps65
  go_wp2
  go_loopw [8] (fun i wr => ∃ k : Nat, k ≤ n ∧ i = .int .i64 k ∧ Below w.heap.size w wr ∧ Hid (∀ x ∈ rows.take k, p x = false)) (fun i _ => n - (intOf i).toNat)
  case atStart => exact ⟨0, Nat.zero_le _, rfl, Below.refl _ _, by simp [Hid]⟩
  case round =>
    obtain ⟨k, hk, rfl, hb, HN⟩ := hrel
    by_cases hlt : k < n
    · obtain ⟨g, rfl, hg, hx⟩ := H3.out (by omega)
      obtain ⟨u, hu, hru⟩ := hx k hlt
      have hxk : wr.cell? ⟨g, k, none⟩ = some u := (hb.cell (by exact hg)).trans hu
      have HB := Lib.hid hb
      have HRU := Lib.hid (hru.below hb)
      obtain ⟨BU, cU, eU, -, -, -⟩ := hru
      subst eU
      clear hx hb hu
      go_wp2_with fail
      refine (HF.out k hlt _ wr HB.out HRU.out).mono ?_
      rintro e w1 ⟨rfl, hb1⟩
      have hbb1 : Below w.heap.size w w1 := Below.then HB.out hb1
      have HB1 := Lib.hid hbb1
      clear hb1 hbb1 hxk
      rcases hp : p (rows.getD k []) with _ | _
      · have HNN := Lib.hid (findV_step (by rw [H1.out]; exact hlt) hp HN.out)
        go_wp2_with fail
        go_roundw
        case rel => exact ⟨k + 1, by omega, by go_num, HB1.out, HNN⟩
        case measure => simp [intOf]; omega
      · have HNN := Lib.hid (findV_hit (by rw [H1.out]; exact hlt) hp HN.out)
        go_wp2_with fail
        go_ret
        exact ⟨ret_int HNN.out.symm, HB1.out⟩
    · obtain rfl : k = n := by omega
      go_wp2
      go_ret
      exact ⟨ret_int (findV_miss (by have := HN.out; rwa [List.take_of_length_le (by rw [H1.out]; exact Nat.le_refl _)] at this)).symm, hb⟩
set_option maxHeartbeats 1000000 in
theorem containsFuncV_any (F : FuncId) (caps : Array Value) (hE : Enters F) (v : Value) (rows : List (List Int)) (p : List Int → Bool) (w : World) (h : RdRows w v rows) (hlen : rows.length ≤ 1048576)
    (hf : ∀ k, k < rows.length → ∀ u w', Below w.heap.size w w' → Rd w' u (rows.getD k []) → Calls Tryz.prog F (#[u] ++ caps) w' fun e w'' => e = .returned (.bool (p (rows.getD k []))) ∧ Below w'.heap.size w' w'') :
    Calls Tryz.prog 32 #[v, .func (.func F) #[] caps] w fun e w' => e = .returned (.bool (rows.any p)) ∧ Below w.heap.size w w' := by
  have HF := Lib.hid hf
  clear hf
  have HRW := Lib.hid h
  obtain ⟨A, c, rfl, -, -, -⟩ := h
  go_enter Tryz.func32, Tryz.ntmps32
  go_wp2_with fail
  refine (indexFuncV_any F caps hE _ rows p w HRW.out hlen HF.out).mono ?_
  rintro e w1 ⟨rfl, hb⟩
  have HB := Lib.hid hb
  clear hb
  go_wp2
  go_ret
  exact ⟨ret_bool (findV_any p rows), HB.out⟩
/-- two lists of players share two at least -/
def meetN (r q : List Nat) : Bool := decide (2 ≤ popN 8 (setW r &&& setW q))
theorem setW_lt8 {r : List Nat} (h : ∀ x ∈ r, x < 8) : setW r < 256 := by
  refine lt_of_testBit (d := 8) fun m hm => ?_
  rw [testBit_setW]
  rcases q : r.contains m with _ | _
  · rfl
  · have := h m (by simpa using q)
    omega
theorem meet_two {r q : List Nat} (hr : ∀ x ∈ r, x < 8) {x y : Nat} (hxy : x ≠ y) (hx : x ∈ r) (hy : y ∈ r) (hx2 : x ∈ q) (hy2 : y ∈ q) : meetN r q = true := by
  unfold meetN
  rw [decide_eq_true_eq, pop_mem (Nat.lt_of_le_of_lt Nat.and_le_left (setW_lt8 hr))]
  have hm : ∀ z, z ∈ r → z ∈ q → z ∈ memN (setW r &&& setW q) 8 := fun z h1 h2 => mem_memN.2 ⟨hr z h1, by rw [Nat.testBit_and, testBit_setW, testBit_setW]; simp [h1, h2]⟩
  have := len_leG (q := [x, y]) (m := memN (setW r &&& setW q) 8) (by simp [hxy]) (fun z hz => by
    simp at hz
    rcases hz with rfl | rfl
    · exact hm _ hx hx2
    · exact hm _ hy hy2)
  simpa using this
/-- a triangle, and packed triangles -/
def triQ (xs : List Int) (n : Nat) (r : List Nat) : Prop := ∃ a b c : Nat, r = [a, b, c] ∧ a < n ∧ b < n ∧ c < n ∧ bt xs a b = true ∧ bt xs b c = true ∧ bt xs c a = true
theorem tri_back {xs : List Int} {n : Nat} {l r : List Nat} (hp : tourP n xs) (hl : l ∈ ordL n) (h : triQ xs n r) : ∃ x y : Nat, x ∈ r ∧ y ∈ r ∧ x ≠ y ∧ [(x : Int), (y : Int)] ∈ bgN (bt xs) n l := by
  obtain ⟨a, b, c, rfl, ha, hb, hc, h1, h2, h3⟩ := h
  have n1 := (bt_asym hp ha hb h1).2
  have n2 := (bt_asym hp hb hc h2).2
  have n3 := (bt_asym hp hc ha h3).2
  have hin : ∀ x y, x < n → y < n → bt xs x y = true → l.idxOf y < l.idxOf x → [(x : Int), (y : Int)] ∈ bgN (bt xs) n l := fun x y hx hy hb hi => bgN_mem.2 ⟨x, y, hx, hy, by unfold bgP; rw [hb, decide_eq_true hi]; rfl, rfl⟩
  have hidx : ∀ x y, x < n → y < n → x ≠ y → l.idxOf x ≠ l.idxOf y := fun x y hx hy hne e => by
    have ix := List.idxOf_lt_length_iff.2 (ord_all hl hx)
    have iy := List.idxOf_lt_length_iff.2 (ord_all hl hy)
    have e1 := List.getElem_idxOf ix
    have e2 := List.getElem_idxOf iy
    apply hne
    rw [← e1, ← e2]
    congr 1
  by_cases q1 : l.idxOf b < l.idxOf a
  · exact ⟨a, b, by simp, by simp, n1, hin a b ha hb h1 q1⟩
  · by_cases q2 : l.idxOf c < l.idxOf b
    · exact ⟨b, c, by simp, by simp, n2, hin b c hb hc h2 q2⟩
    · have i1 := hidx a b ha hb n1
      have i2 := hidx b c hb hc n2
      exact ⟨c, a, by simp, by simp, n3, hin c a hc ha h3 (by omega)⟩
theorem pack_few {xs : List Int} {n : Nat} {l : List Nat} (hp : tourP n xs) (hl : l ∈ ordL n) {out : List (List Nat)} (h1 : ∀ r ∈ out, triQ xs n r) (h2 : out.Pairwise fun r q => meetN q r = false) : out.length ≤ revN (bt xs) l := by
  have h8 : n ≤ 8 := by have := hp.1; omega
  rw [← bgN_len hl]
  have key : ∀ out : List (List Nat), (∀ r ∈ out, triQ xs n r) → out.Pairwise (fun r q => meetN q r = false) → ∃ ps : List (List Int), ps.length = out.length ∧ ps.Nodup ∧ (∀ p ∈ ps, p ∈ bgN (bt xs) n l) ∧ ∀ p ∈ ps, ∃ r ∈ out, ∃ x y : Nat, p = [(x : Int), (y : Int)] ∧ x ∈ r ∧ y ∈ r ∧ x ≠ y := by
    intro out
    induction out with
    | nil => intro _ _; exact ⟨[], rfl, List.nodup_nil, fun p hp => by simp at hp, fun p hp => by simp at hp⟩
    | cons r out ih =>
      intro h1 h2
      rw [List.pairwise_cons] at h2
      obtain ⟨ps, e1, e2, e3, e4⟩ := ih (fun q hq => h1 q (by simp [hq])) h2.2
      obtain ⟨x, y, hx, hy, hxy, hb⟩ := tri_back hp hl (h1 r (by simp))
      refine ⟨[(x : Int), (y : Int)] :: ps, by simp [e1], List.nodup_cons.2 ⟨fun hm => ?_, e2⟩, fun p hp => ?_, fun p hp => ?_⟩
      · obtain ⟨q, hq, x', y', e, hx', hy', -⟩ := e4 _ hm
        injection e with e5 e6
        injection e6 with e6 _
        have h5 : x = x' := by omega
        have h6 : y = y' := by omega
        subst h5 h6
        have hq8 : ∀ z ∈ q, z < 8 := fun z hz => by
          obtain ⟨a, b, c, rfl, ha, hb, hc, -⟩ := h1 q (by simp [hq])
          simp at hz
          omega
        have := h2.1 q hq
        rw [meet_two hq8 hxy hx' hy' hx hy] at this
        cases this
      · rcases List.mem_cons.1 hp with rfl | hp
        · exact hb
        · exact e3 p hp
      · rcases List.mem_cons.1 hp with rfl | hp
        · exact ⟨r, by simp, x, y, rfl, hx, hy, hxy⟩
        · obtain ⟨q, hq, h⟩ := e4 p hp
          exact ⟨q, by simp [hq], h⟩
  obtain ⟨ps, e1, e2, e3, -⟩ := key out h1 h2
  rw [← e1]
  exact len_leG e2 e3
end Go.Proofs.YthoodjjjklbggaaGreatDoor

