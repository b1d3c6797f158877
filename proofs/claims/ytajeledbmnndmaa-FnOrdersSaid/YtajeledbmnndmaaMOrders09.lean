/- Texts put together: WBi, Flip. -/
import Derived.Test.YtajeledbmnndmaaMOrders07
import Derived.Test.YtajeledbmnndmaaMOrders08
import Derived.Test.YtajeledbmnndmaaMOrders01
import Derived.Test.YtajeledbmnndmaaMOrders06
import Derived.Test.YtajeledbmnndmaaMOrders02
import Derived.Deep.RegionHeld3
import Derived.Deep.RegionLawGrows
namespace Go.Proofs.Ytajeledbmnndmaa
open Go.RowKit Go.Sort
set_option maxRecDepth 100000
theorem beqNatW (x b : Nat) : ((x : Int) == (b : Int)) = (x == b) := by rw [Bool.eq_iff_iff, beq_iff_eq, beq_iff_eq]; omega
set_option maxHeartbeats 1000000 in
theorem wb1_any (way : List Nat) (v : Value) (k b : Nat) (gb gk : Nat) (W : World) (ck : W.cell? ⟨gk, 0, none⟩ = some (.int .i64 k)) (cb : W.cell? ⟨gb, 0, none⟩ = some (.int .i64 b))
    (hl : way.length = k) (hk : 1 ≤ k ∧ k ≤ 8) (h : Rd W v (nI way)) :
    Calls Try.prog 96 #[v, .pointer (some ⟨gk, 0, none⟩), .pointer (some ⟨gb, 0, none⟩)] W fun e w' => e = .returned (.bool (wB b way)) ∧ Below W.heap.size W w' := by
  obtain ⟨A, c, rfl, hlc, hm, hc⟩ := h
  rw [nI_len, hl] at hlc hc
  rw [nI_len, hl]
  unfold maxLen at hm
  obtain ⟨p, hpk⟩ : ∃ p, k = p + 1 := ⟨k - 1, by omega⟩
  obtain ⟨g, off, rfl, hg, hcell⟩ := hc (by omega)
  have hlast := hcell p (by omega)
  rw [nI_getD (by omega)] at hlast
  have hlw : lastN way = way.getD p 0 := by unfold lastN; rw [hl, hpk]; rfl
  have hF : Hid (wB b way = ((way.getD p 0 : Nat) == b)) := by unfold Hid wB; rw [hlw]
  have hidx : IntKind.i64.wrap ((k : Int) - 1) = p := by rw [show (k : Int) - 1 = p by omega]; rw [IntKind.wrap_i64]; omega
  have i1 : (0 : Int) ≤ p := by omega
  have i2 : (p : Int) < k := by omega
  have i3 : p < k := by omega
  have hq := beqNatW (way.getD p 0) b
  generalize way.getD p 0 = last at *
  have d3 := cell_regrown ck
  have d4 := cell_regrown cb
  have d5 := cell_regrown hlast
  clear ck cb hlast hcell hc hl hpk
  go_enter Try.func96, Try.ntmps96
  go_wp2_with fail
  refine wp_region_below (by kernel_rfl) (by kernel_rfl) ?_
  repeat (go_big_quiet_step (first | fail))
  refine wpQuiet_nil ?_
  intro wq hbq0
  have HBQ := Lib.hid hbq0
  clear hbq0 d3 d4 d5
  go_wp2
  go_ret
  exact ⟨ret_bool (by rw [hF.out]), HBQ.out⟩
theorem enters_wb1 : Enters 96 := fun _ _ => by kernel_rfl
theorem wb_yes {n : Nat} {xs : List Int} {i b k : Nat} {L : List Nat} (hok : wbOk n xs i b = true) (hn : xs.length = n) (h0 : 1 ≤ k) (hk : k ≤ n) (hj : ∀ j, j + 1 < k → dfs xs n (wB b) j [i] = none) (h : dfs xs n (wB b) (k - 1) [i] = some L) : wbO n xs i b = some L := by
  obtain ⟨h1, h2⟩ := wb_hit (by omega) (fun j hjk => hj j (by omega)) h
  unfold wbO
  rw [if_pos hok, Int.toNat_natCast, Int.toNat_natCast, hn, h1, if_neg (by omega), Int.toNat_natCast, h2]
theorem wb_none {n : Nat} {xs : List Int} {i b : Nat} (hok : wbOk n xs i b = true) (hn : xs.length = n) (hi : i < n) (hj : ∀ j, j < n → dfs xs n (wB b) j [i] = none) : wbO n xs i b = none := by
  have h1 := wb_miss hi hj
  unfold wbO
  rw [if_pos hok, Int.toNat_natCast, Int.toNat_natCast, hn, if_pos h1]
def cellN (v : Value) (w : World) : Nat := match v with
  | .pointer (some a) => (intOf ((w.cell? a).getD undef)).toNat
  | _ => 0
theorem cellN_at {w : World} {a : Addr} {k : Nat} (h : w.cell? a = some (.int .i64 k)) : cellN (.pointer (some a)) w = k := by
  simp [cellN, h, intOf]
set_option maxHeartbeats 2000000 in
theorem implWB (s : Int) (sl : Value) (xs : List Int) (a b : Int) (w : World) (h : Rd w sl xs) :
    Calls Try.prog 40 #[.agg #[.int .i64 s, sl], .int .i64 a, .int .i64 b] w fun e w' => ∃ v', e = .returned (.tuple #[v', .bool (wbO s xs a b).isSome]) ∧ Own w' w.heap.size v' (wbL s xs a b) ∧ Below w.heap.size w w' := by
  have HR := Lib.hid h
  obtain ⟨A, c, rfl, -, -, -⟩ := h
  have b3 := (below_alloc1 w (.cells #[.int .i64 s, .slice A xs.length c] 28)).alloc (by simp) (.cells #[.int .i64 b] 3)
  have t0 := (TBox.new w s (.slice A xs.length c) 28).below (below_alloc1 _ (.cells #[.int .i64 b] 3))
  have c1 : ((w.alloc (.cells #[.int .i64 s, .slice A xs.length c] 28)).alloc (.cells #[.int .i64 b] 3)).cell? ⟨w.heap.size + 1, 0, none⟩ = some (.int .i64 b) := by
    have := cell_new1 (w.alloc (.cells #[.int .i64 s, .slice A xs.length c] 28)) (.int .i64 b) 3
    simpa only [World.size_alloc] using this
  have HB0 := Lib.hid b3
  have HT0 := Lib.hid t0
  have C1 := Lib.hid c1
  clear b3 t0 c1
  have qT : ∀ (w : World) (a : Option Addr) (n c n' c' : Nat), (binOp .neq 22 (.slice a n c) (.slice none n' c')).run Try.prog w = .ok (.bool (!a.isNone)) w := fun w a n c n' c' => run_neq_slice_nil w _ _ a n c n' c' Try.underlying22
  rcases q0 : tourB s xs with _ | _
  · have hno := wbO_no (show wbOk s xs a b = false by simp [wbOk, q0])
    rw [wbL, hno]
    go_enter Try.func40, Try.ntmps40
    go_wp2_with fail
    generalize ((w.alloc (.cells #[.int .i64 s, .slice A xs.length c] 28)).alloc (.cells #[.int .i64 b] 3)) = w0 at *
    have y0 := HT0.out.1
    have y1 := HT0.out.2
    go_wp2_with fail
    refine (implTourOk s _ xs _ (HR.out.below HB0.out)).mono ?_
    rintro e w1 ⟨rfl, hb⟩
    rw [q0]
    have HB1 := Lib.hid (Below.then HB0.out hb)
    go_wp2
    go_ret2
    exact ⟨.slice none 0 0, rfl, Own.nil_ _ _, HB1.out⟩
  have hp := tourB_true.1 q0
  have hs := hp.1
  have hsl := hp.2.1
  rcases q1 : inB a 0 (s - 1) with _ | _
  · have hno := wbO_no (show wbOk s xs a b = false by simp [wbOk, q1])
    rw [wbL, hno]
    go_enter Try.func40, Try.ntmps40
    go_wp2_with fail
    generalize ((w.alloc (.cells #[.int .i64 s, .slice A xs.length c] 28)).alloc (.cells #[.int .i64 b] 3)) = w0 at *
    have y0 := HT0.out.1
    have y1 := HT0.out.2
    go_wp2_with fail
    refine (implTourOk s _ xs _ (HR.out.below HB0.out)).mono ?_
    rintro e w1 ⟨rfl, hb⟩
    rw [q0]
    have HB1 := Lib.hid (Below.then HB0.out hb)
    have HT1 := Lib.hid (HT0.out.below hb)
    clear y0 y1
    have y0 := HT1.out.1
    have y1 := HT1.out.2
    go_wp2_with fail
    refine (has_any s _ a _ (by omega)).mono ?_
    rintro e w2 ⟨rfl, hb2⟩
    rw [q1]
    have HB2 := Lib.hid (Below.then HB1.out hb2)
    go_wp2
    go_ret2
    exact ⟨.slice none 0 0, rfl, Own.nil_ _ _, HB2.out⟩
  have ha := inB_true.1 q1
  obtain ⟨i, rfl⟩ := Int.eq_ofNat_of_zero_le ha.1
  rcases q2 : inB b 0 (s - 1) with _ | _
  all_goals
    go_enter Try.func40, Try.ntmps40
    go_wp2_with fail
    generalize ((w.alloc (.cells #[.int .i64 s, .slice A xs.length c] 28)).alloc (.cells #[.int .i64 b] 3)) = w0 at *
    have y0 := HT0.out.1
    have y1 := HT0.out.2
    go_wp2_with fail
    refine (implTourOk s _ xs _ (HR.out.below HB0.out)).mono ?_
    rintro e w1 ⟨rfl, hb⟩
    rw [q0]
    have HB1 := Lib.hid (Below.then HB0.out hb)
    have HT1 := Lib.hid (HT0.out.below hb)
    have C11 := Lib.hid ((hb.cell (World.block_lt_of_cell? _ _ C1.out)).trans C1.out)
    clear y0 y1 hb
    have y0 := HT1.out.1
    have y1 := HT1.out.2
    go_wp2_with fail
    refine (has_any s _ i _ (by omega)).mono ?_
    rintro e w2 ⟨rfl, hb2⟩
    rw [q1]
    have HB2 := Lib.hid (Below.then HB1.out hb2)
    have HT2 := Lib.hid (HT1.out.below hb2)
    have C12 := Lib.hid ((hb2.cell (World.block_lt_of_cell? _ _ C11.out)).trans C11.out)
    clear y0 y1 hb2 HB0 HB1 HT0 HT1 C1 C11
    have y0 := HT2.out.1
    have y1 := HT2.out.2
    have cb := C12.out
    go_wp2_with fail
    refine (has_any s _ b _ (by omega)).mono ?_
    rintro e w3 ⟨rfl, hb3⟩
    rw [q2]
    have HB3 := Lib.hid (Below.then HB2.out hb3)
    have HT3 := Lib.hid (HT2.out.below hb3)
    have C13 := Lib.hid ((hb3.cell (World.block_lt_of_cell? _ _ C12.out)).trans C12.out)
    clear y0 y1 cb hb3 HB2 HT2 C12
  · have hno := wbO_no (show wbOk s xs i b = false by simp [wbOk, q2])
    go_wp2
    go_ret2
    exact ⟨.slice none 0 0, by rw [hno]; rfl, by rw [wbL, hno]; exact Own.nil_ _ _, HB3.out⟩
  · have hbb := inB_true.1 q2
    obtain ⟨t, rfl⟩ := Int.eq_ofNat_of_zero_le hbb.1
    have HOK := Lib.hid (show wbOk s xs i t = true by simp [wbOk, q0, q1, q2])
    obtain ⟨n, rfl⟩ := Int.eq_ofNat_of_zero_le (show 0 ≤ s by omega)
    have HP := Lib.hid hp
    have HN : Hid (xs.length = n) := by unfold Hid; omega
    have hin : i < n := by omega
    have hn8 : 1 ≤ n ∧ n ≤ 8 := by omega
    have hg0 := World.block_lt_of_cell? _ _ HT3.out.1
    have hg1 := World.block_lt_of_cell? _ _ C13.out
    clear q0 q1 q2 hp hs hsl hbb ha
    go_wp2
    have hs0 : (w3.alloc (.cells #[.int .i64 0] 3)).heap.size = w3.heap.size + 1 := by simp
    go_loopw [8] (fun p wr => ∃ (g8 k : Nat), p = .pointer (some ⟨g8, 0, none⟩) ∧ 1 ≤ k ∧ k ≤ n + 1 ∧ wr.cell? ⟨g8, 0, none⟩ = some (.int .i64 k) ∧ Hid (Below w3.heap.size w3 wr) ∧ Hid (∀ j, j + 1 < k → dfs xs n (wB t) j [i] = none)) (fun p wr => n + 1 - cellN p wr)
    case atStart =>
      refine ⟨w3.heap.size, 1, rfl, by omega, by omega, ?_, ?_, fun j hj => absurd hj (by omega)⟩
      · simp
      · exact below_alloc1 _ _
    case round =>
      obtain ⟨wo, rfl⟩ : ∃ x, x = wr := ⟨_, rfl⟩
      obtain ⟨g8, k, rfl, hk1, hk2, ck, HB, HD⟩ := hrel
      have HTo := Lib.hid (HT3.out.below HB.out)
      have Cbo := Lib.hid ((HB.out.cell hg1).trans C13.out)
      have HBo := Lib.hid (Below.then HB3.out HB.out)
      have y0 := HTo.out.1
      have y1 := HTo.out.2
      have CK := Lib.hid ck
      by_cases hkn : k ≤ n
      · have HW : WantP 96 #[.pointer (some ⟨g8, 0, none⟩), .pointer (some ⟨w.heap.size + 1, 0, none⟩)] (wB t) k xs.length wo := fun way v W hl _ hB hr =>
          wb1_any way v k t _ _ W ((hB.cell (World.block_lt_of_cell? _ _ CK.out)).trans CK.out) ((hB.cell (World.block_lt_of_cell? _ _ Cbo.out)).trans Cbo.out) hl (by omega) hr
        have HRD := Lib.hid (HR.out.below HBo.out)
        have HWW := Lib.hid HW
        have HOL := Lib.hid (show Own (wo.alloc (.cells #[.int .i64 i] 3)) wo.heap.size (.slice (some ⟨wo.heap.size, 0, none⟩) 1 1) (nI [i]) from Own.lit wo wo.heap.size [(i : Int)] (Nat.le_refl _) (by simp))
        have ck2 := ((below_alloc1 wo (.cells #[.int .i64 i] 3)).cell (World.block_lt_of_cell? _ _ CK.out)).trans CK.out
        have hle : (k : Int) ≤ n := by omega
        clear HW
        go_wp2_with fail
        refine (wayOn_any n _ xs HP.out 96 _ enters_wb1 (wB t) k wo HRD.out HWW.out (by omega) (k - 1) [i] wo.heap.size _ _ (below_alloc1 _ _) (Nat.le_refl _) (by simp) HOL.out (by simp) (by simp; omega) (fun x hx => by have := HN.out; simp at hx; omega)).mono ?_
        rintro e w6 ⟨v6, rfl, hs6, hn6, hg6, -⟩
        rw [HN.out] at hs6 hn6
        have HB6 := Lib.hid (below_of_grown (below_alloc1 wo _) hg6 (fun x hx => by injection hx with hx; exact Nat.le_of_eq hx))
        clear hg6 ck ck2
        have ck := (HB6.out.cell (World.block_lt_of_cell? _ _ CK.out)).trans CK.out
        rcases hd : dfs xs n (wB t) (k - 1) [i] with _ | L
        · have := hn6 hd
          subst this
          have HDD := Lib.hid hd
          clear hd hs6 hn6
          go_wp2
          go_roundw
          case rel =>
            refine ⟨w6.heap.size, k + 1, rfl, by omega, by omega, by rw [cell_new1]; simp, Below.then HB.out (Below.then HB6.out (below_alloc1 _ _)), fun j hj => ?_⟩
            by_cases hjk : j + 1 < k
            · exact HD.out j hjk
            · obtain rfl : j = k - 1 := by omega
              exact HDD.out
          case measure =>
            rw [cellN_at (k := k + 1) (by rw [cell_new1]; simp), cellN_at CK.out]
            omega
        · obtain ⟨⟨g6, c6, rfl⟩, ho⟩ := hs6 L hd
          have HOO := Lib.hid (wb_yes HOK.out HN.out hk1 hkn HD.out hd)
          have HOW := Lib.hid (ho.mono (show w.heap.size ≤ _ by have := HBo.out.size; simp; omega))
          have HBW := Lib.hid (Below.then HBo.out HB6.out)
          clear hd hs6 hn6 ho
          go_wp2
          go_ret2
          exact ⟨.slice (some ⟨g6, 0, none⟩) k c6, by rw [HOO.out]; rfl, by rw [wbL, HOO.out]; exact HOW.out, HBW.out⟩
      · have HOO := Lib.hid (wb_none HOK.out HN.out hin (fun j hj => HD.out j (by omega)))
        have hgt : (n : Int) < k := by omega
        go_wp2
        go_ret2
        exact ⟨.slice none 0 0, by rw [HOO.out]; rfl, by rw [wbL, HOO.out]; exact Own.nil_ _ _, HBo.out⟩
end Go.Proofs.Ytajeledbmnndmaa

namespace Go.Proofs.Ytajeledbmnndmaa
open Go.RowKit Go.Sort
set_option maxRecDepth 100000

/-- one digit turned over -/
def xorI (x : Int) (b : Nat) : Int := bits BinOp.xor IntKind.i64 x (wrap64 (2 ^ b))
def flipL (xs : List Int) (a b : Nat) : List Int := (xs.set a (xorI (xs.getD a 0) b)).set b (xorI ((xs.set a (xorI (xs.getD a 0) b)).getD b 0) a)
theorem flipL_len (xs : List Int) (a b : Nat) : (flipL xs a b).length = xs.length := by simp [flipL]
set_option maxHeartbeats 2000000 in
theorem flipped_any (s : Int) (sl : Value) (xs : List Int) (a b : Nat) (w : World) (h : Rd w sl xs) (hl : xs.length ≤ 8) (ha : a < xs.length) (hb : b < xs.length) :
    Calls Try.prog 98 #[.agg #[.int .i64 s, sl], .int .i64 a, .int .i64 b] w fun e w' => ∃ sl', e = .returned (.agg #[.int .i64 s, sl']) ∧ Own w' w.heap.size sl' (flipL xs a b) ∧ Below w.heap.size w w' := by
  have HR := Lib.hid h
  obtain ⟨A, c, rfl, -, -, -⟩ := h
  go_enter Try.func98, Try.ntmps98
  go_wp2_with fail
  have b0 := (below_alloc1 w (.cells #[.int .i64 s, .slice A xs.length c] 28)).alloc (by simp) (.cells #[.int .i64 0, .slice none 0 0] 28)
  have x0 := (TBox.new w s (.slice A xs.length c) 28).below (below_alloc1 _ (.cells #[.int .i64 0, .slice none 0 0] 28))
  have t0 := BoxF.new (w.alloc (.cells #[.int .i64 s, .slice A xs.length c] 28)) 0 (.slice none 0 0) 28
  simp only [World.size_alloc] at t0
  generalize (w.alloc (.cells #[.int .i64 s, .slice A xs.length c] 28)).alloc (.cells #[.int .i64 0, .slice none 0 0] 28) = w0 at *
  have HX0 := Lib.hid x0
  have HB0 := Lib.hid b0
  have HT0 := Lib.hid t0
  clear x0 b0 t0
  have y0_0 := HX0.out.1
  have y1_0 := HX0.out.2
  have hg0 := HX0.out.1
  have hgt0 : w.heap.size + 1 < w0.heap.size := HT0.out.gt
  have HDX := Lib.hid (show TBox w0.drew w.heap.size s (.slice A xs.length c) from HX0.out)
  have HDT := Lib.hid (show BoxF w0.drew (w.heap.size + 1) 0 (.slice none 0 0) from HT0.out)
  have HDB := Lib.hid (show Below w.heap.size w w0.drew from ⟨HB0.out.os, HB0.out.tape, HB0.out.output, HB0.out.size, HB0.out.block⟩)
  have bA := below_alloc1 w0 (.cells #[.int .i64 0, .slice none 0 0] 28)
  have hXA := HX0.out.below bA
  have hTA := HT0.out.below bA
  have HAX := Lib.hid (show TBox (w0.alloc (.cells #[.int .i64 0, .slice none 0 0] 28)).drew w.heap.size s (.slice A xs.length c) from hXA)
  have HAT := Lib.hid (show BoxF (w0.alloc (.cells #[.int .i64 0, .slice none 0 0] 28)).drew (w.heap.size + 1) 0 (.slice none 0 0) from hTA)
  have HAU := Lib.hid (show BoxF (w0.alloc (.cells #[.int .i64 0, .slice none 0 0] 28)).drew w0.heap.size 0 (.slice none 0 0) from BoxF.new w0 0 (.slice none 0 0) 28)
  have HAB := Lib.hid (show Below w.heap.size w (w0.alloc (.cells #[.int .i64 0, .slice none 0 0] 28)).drew from (let q := Below.then HB0.out bA; ⟨q.os, q.tape, q.output, q.size, q.block⟩))
  have ya0 := hXA.1
  have ya1 := hXA.2
  clear bA hXA hTA hg0
  go_region_held3 (fun W => W.cell? ⟨w.heap.size, 0, none⟩ = some (.int .i64 s) ∧ W.cell? ⟨w.heap.size, 1, none⟩ = some (.slice A xs.length c))
    (first | exact ⟨y0_0, y1_0⟩ | exact ⟨ya0, ya1⟩ | exact ⟨y0_1, y1_1⟩ | exact ⟨yb0, yb1⟩ | exact ⟨yc0, yc1⟩)
    (first
      | (go_at_call 109; refine (clone_any (.slice A xs.length c) xs w0.drew (HR.out.below HDB.out) (by omega) (by omega)).mono ?_; rintro e w1 ⟨v1, rfl, ho1, hb1⟩; obtain ⟨Y, cy, rfl, hcy, hly, hgy⟩ := ho1.form; have HX1 := Lib.hid (HDX.out.below hb1); have HT1 := Lib.hid (HDT.out.below hb1); have HB1 := Lib.hid (Below.then HDB.out hb1); have y0_1 := HX1.out.1; have y1_1 := HX1.out.2; have HO1 := Lib.hid (show Own w1 w0.heap.size _ _ from ho1); have hXb := HX1.out.below (below_alloc1 w1 (.cells #[.int .i64 0, .slice none 0 0] 28)); have yb0 := hXb.1; have yb1 := hXb.2; have hXc := HX1.out.below (below_alloc1 w1 (.cells #[.int .i64 s, .slice Y xs.length cy] 28)); have yc0 := hXc.1; have yc1 := hXc.2; have WAY : Hid (0 = 0) := rfl; have hs1 := hb1.size; clear hXb hXc ho1 hb1)
      | (go_at_call 109; refine (clone_any (.slice A xs.length c) xs (w0.alloc (.cells #[.int .i64 0, .slice none 0 0] 28)).drew (HR.out.below HAB.out) (by omega) (by omega)).mono ?_; rintro e w1 ⟨v1, rfl, ho1, hb1⟩; obtain ⟨Y, cy, rfl, hcy, hly, hgy⟩ := ho1.form; have HX1 := Lib.hid (HAX.out.below hb1); have HT1 := Lib.hid (HAT.out.below hb1); have HU1 := Lib.hid (HAU.out.below hb1); have HB1 := Lib.hid (Below.then HAB.out hb1); have y0_1 := HX1.out.1; have y1_1 := HX1.out.2; have u0 := HU1.out.1.1; have u1 := HU1.out.1.2; have uf0 := HU1.out.2 0; have uf1 := HU1.out.2 1; have HO1 := Lib.hid (show Own w1 (w0.alloc (.cells #[.int .i64 0, .slice none 0 0] 28)).heap.size _ _ from ho1); have hs1 := hb1.size; have hXc := (HX1.out.kept (setCell_grown _ ⟨w0.heap.size, 0, none⟩ (.int .i64 s)) (by simp; omega)).kept (setCell_grown _ ⟨w0.heap.size, 1, none⟩ (.slice Y xs.length cy)) (by simp; omega); have yc0 := hXc.1; have yc1 := hXc.2; clear hXc ho1 hb1))
  all_goals
    obtain ⟨gy, rfl, hgy1, hgy2⟩ := hgy (by omega)
    clear y0_0 y1_0 y0_1 y1_1 yc0 yc1 ya0 ya1
    first
      | (clear yb0 yb1
         have hs2 : w0.heap.size ≤ w1.heap.size := hs1
         have hs3 : w0.heap.size ≤ gy := hgy1
         have HU := Lib.hid (BoxF.new w1 s (.slice (some ⟨gy, 0, none⟩) xs.length cy) 28)
         have b2 := below_alloc1 w1 (.cells #[.int .i64 s, .slice (some ⟨gy, 0, none⟩) xs.length cy] 28)
         have HT := Lib.hid (HT1.out.below b2)
         have HO := Lib.hid (HO1.out.below b2)
         have HB := Lib.hid (Below.then HB1.out b2)
         have hgu : w.heap.size + 1 < w1.heap.size ∧ w1.heap.size ≠ gy := by omega
         clear b2 HO1 HT1 HB1 HX1
         generalize w1.alloc (.cells #[.int .i64 s, .slice (some ⟨gy, 0, none⟩) xs.length cy] 28) = W at *
         generalize w1.heap.size = gu at *)
      | (have hs2 : w0.heap.size + 1 ≤ gy := by simpa using hgy1
         have HU := Lib.hid (HU1.out.set01 s (.slice (some ⟨gy, 0, none⟩) xs.length cy))
         have HT := Lib.hid ((HT1.out.kept (setCell_grown _ ⟨w0.heap.size, 0, none⟩ (.int .i64 s)) (by simp; omega)).kept (setCell_grown _ ⟨w0.heap.size, 1, none⟩ (.slice (some ⟨gy, 0, none⟩) xs.length cy)) (by simp; omega))
         have HO := Lib.hid (((HO1.out.mono (show w0.heap.size ≤ _ by simp)).kept (setCell_grown _ ⟨w0.heap.size, 0, none⟩ (.int .i64 s)) (by right; simp [Value.ownBlock]; omega)).kept (setCell_grown _ ⟨w0.heap.size, 1, none⟩ (.slice (some ⟨gy, 0, none⟩) xs.length cy)) (by right; simp [Value.ownBlock]; omega))
         have HB := Lib.hid ((HB1.out.setCell (p := ⟨w0.heap.size, 0, none⟩) (show w.heap.size ≤ w0.heap.size by omega) (.int .i64 s)).setCell (p := ⟨w0.heap.size, 1, none⟩) (show w.heap.size ≤ w0.heap.size by omega) (.slice (some ⟨gy, 0, none⟩) xs.length cy))
         have hgu : w.heap.size + 1 < w0.heap.size ∧ w0.heap.size ≠ gy := by omega
         clear u0 u1 uf0 uf1 HO1 HT1 HB1 HX1 HU1
         generalize ((w1.setCell ⟨w0.heap.size, 0, none⟩ (.int .i64 s)).setCell ⟨w0.heap.size, 1, none⟩ (.slice (some ⟨gy, 0, none⟩) xs.length cy)) = W at *
         obtain ⟨gu, hgue⟩ : ∃ gu, gu = w0.heap.size := ⟨_, rfl⟩
         rw [← hgue] at HU hgu ⊢
         clear hgue)
    have hgy3 : w.heap.size + 1 < gy := by omega
    clear hgy1 hgy2
    have za := (HO.out.at1 rfl (by omega)).1 a ha
    obtain ⟨x, hx⟩ : ∃ x, x = xs.getD a 0 := ⟨_, rfl⟩
    obtain ⟨x1, hx1⟩ : ∃ x1, x1 = bits BinOp.xor IntKind.i64 x (wrap64 (2 ^ b)) := ⟨_, rfl⟩
    have HE1 : Hid (x1 = xorI (xs.getD a 0) b) := by unfold Hid xorI; rw [hx1, hx]
    rw [← hx] at za
    have hxor := hx1.symm
    have c1 := cell_regrown HU.out.1.2
    have c2 := cell_regrown za
    clear za hx1 hx
    go_wp2_with fail
    refine wp_region_below_tail 9 (by kernel_rfl) (by kernel_rfl) ?_
    simp only [List.take_succ_cons, List.take_zero, List.drop_succ_cons, List.drop_zero]
    repeat (go_big_quiet_step (first | (with_reducible fail)))
    refine wpQuiet_nil ?_
    intro wq hbq0
    have hbq := Lib.hid hbq0
    clear hbq0
    clear c1 c2 hxor
    have O2 := HO.out.below hbq.out
    obtain ⟨hx2, hf2⟩ := O2.at1 rfl (by omega)
    have za := hx2 a ha
    have fa := hf2 a
    have O3 := (O2.set_ rfl a x1).1
    have HU3 := Lib.hid ((HU.out.below hbq.out).kept (setCell_grown _ ⟨gy, a, none⟩ (.int .i64 x1)) (by simp; omega))
    have HT3 := Lib.hid ((HT.out.below hbq.out).kept (setCell_grown _ ⟨gy, a, none⟩ (.int .i64 x1)) (by simp; omega))
    have HB3 := Lib.hid ((Below.then HB.out hbq.out).setCell (p := ⟨gy, a, none⟩) (show w.heap.size ≤ gy by omega) (.int .i64 x1))
    have HO3 := Lib.hid O3
    have hl1 : (xs.set a x1).length = xs.length := by simp
    clear hx2 hf2 O2 O3 HO HU HT HB
    generalize hL : xs.set a x1 = L at *
    have HL := Lib.hid hL
    clear hL
    generalize hn : xs.length = n at *
    have HN := Lib.hid hn
    go_wp2_with fail
    clear za fa
    have zb := (HO3.out.at1 hl1 (by omega)).1 b hb
    obtain ⟨y, hy⟩ : ∃ y, y = L.getD b 0 := ⟨_, rfl⟩
    obtain ⟨y1, hy1⟩ : ∃ y1, y1 = bits BinOp.xor IntKind.i64 y (wrap64 (2 ^ a)) := ⟨_, rfl⟩
    have HE2 : Hid (y1 = xorI (L.getD b 0) a) := by unfold Hid xorI; rw [hy1, hy]
    rw [← hy] at zb
    have hxor := hy1.symm
    have c1 := cell_regrown HU3.out.1.2
    have c2 := cell_regrown zb
    clear zb hy1 hy
    refine wp_region_below_tail 9 (by kernel_rfl) (by kernel_rfl) ?_
    simp only [List.take_succ_cons, List.take_zero, List.drop_succ_cons, List.drop_zero]
    repeat (go_big_quiet_step (first | (with_reducible fail)))
    refine wpQuiet_nil ?_
    intro wq hbq0
    have hbq := Lib.hid hbq0
    clear hbq0
    clear c1 c2 hxor
    have O2 := HO3.out.below hbq.out
    obtain ⟨hx2, hf2⟩ := O2.at1 hl1 (by omega)
    have zb := hx2 b hb
    have fb := hf2 b
    have O5 := (O2.set_ hl1 b y1).1
    have hl5 : (L.set b y1).length = n := by simp [hl1]
    have HE : Hid (L.set b y1 = flipL xs a b) := by unfold Hid flipL; rw [← HE1.out, HL.out, ← HE2.out]
    have HU5 := (HU3.out.below hbq.out).kept (setCell_grown _ ⟨gy, b, none⟩ (.int .i64 y1)) (by simp; omega)
    have HT5 := (HT3.out.below hbq.out).kept (setCell_grown _ ⟨gy, b, none⟩ (.int .i64 y1)) (by simp; omega)
    have HB5 := Lib.hid ((Below.then HB3.out hbq.out).setCell (p := ⟨gy, b, none⟩) (show w.heap.size ≤ gy by omega) (.int .i64 y1))
    have HO5 := Lib.hid O5
    have HU3q := HU3.out.below hbq.out
    have HT3q := HT3.out.below hbq.out
    clear hx2 hf2 O2 O5 HO3 HU3 HT3 HB3 hbq
    have HTq := HT3q
    have u0 := HU3q.1.1
    have u1 := HU3q.1.2
    have v0 := HT3q.1.1
    have v1 := HT3q.1.2
    have f0 := HT3q.2 0
    have f1 := HT3q.2 1
    have V0 := Lib.hid HT5.1.1
    have V1 := Lib.hid HT5.1.2
    have hgu2 := hgu.2
    have hgu3 : gy ≠ gu := fun e => hgu2 e.symm
    have hgu4 : gy ≠ w.heap.size + 1 := by omega
    clear HTq HU5 HT5
    have HOx := Lib.hid ((HO5.out.kept (setCell_grown _ ⟨w.heap.size + 1, 0, none⟩ (.int .i64 s)) (by right; simp [Value.ownBlock]; omega)).kept (setCell_grown _ ⟨w.heap.size + 1, 1, none⟩ (.slice (some ⟨gy, 0, none⟩) n cy)) (by right; simp [Value.ownBlock]; omega))
    have HBx := Lib.hid ((HB5.out.setCell (p := ⟨w.heap.size + 1, 0, none⟩) (by simp) (.int .i64 s)).setCell (p := ⟨w.heap.size + 1, 1, none⟩) (by simp) (.slice (some ⟨gy, 0, none⟩) n cy))
    have R0 : Hid ((((wq.setCell ⟨gy, b, none⟩ (.int .i64 y1)).setCell ⟨w.heap.size + 1, 0, none⟩ (.int .i64 s)).setCell ⟨w.heap.size + 1, 1, none⟩ (.slice (some ⟨gy, 0, none⟩) n cy)).cell? ⟨w.heap.size + 1, 0, none⟩ = some (.int .i64 s)) := (World.cell?_setCell_other _ _ _ _ (by simp)).trans (World.cell?_setCell_same _ _ _ V0.out)
    have R1 : Hid ((((wq.setCell ⟨gy, b, none⟩ (.int .i64 y1)).setCell ⟨w.heap.size + 1, 0, none⟩ (.int .i64 s)).setCell ⟨w.heap.size + 1, 1, none⟩ (.slice (some ⟨gy, 0, none⟩) n cy)).cell? ⟨w.heap.size + 1, 1, none⟩ = some (.slice (some ⟨gy, 0, none⟩) n cy)) := World.cell?_setCell_same _ _ _ ((World.cell?_setCell_other _ _ _ _ (by simp)).trans V1.out)
    clear HU3q HT3q
    go_wp2
    have r0 := R0.out
    have r1 := R1.out
    refine bodyPost_ret (v := .agg #[.int .i64 s, .slice (some ⟨gy, 0, none⟩) n cy]) (by simp only [results, Try.results98]; simp [go_sem, r0, r1]) rfl ⟨_, rfl, ?_, HBx.out⟩
    rw [← HE.out]
    exact HOx.out.mono (by omega)
end Go.Proofs.Ytajeledbmnndmaa

