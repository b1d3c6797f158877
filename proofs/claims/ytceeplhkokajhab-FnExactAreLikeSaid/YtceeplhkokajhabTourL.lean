/- The helpers of the laws over tours, by contract: toTour, szTour, eqTour. -/
import Derived.Test.YtceeplhkokajhabTour
import Derived.Test.YtceeplhkokajhabMarks
import Derived.Test.YtceeplhkokajhabTourLw
namespace Go.Proofs.Ytceeplhkokajhab
open Go.RowKit Go.Sort

set_option maxHeartbeats 400000 in
theorem szIntS_any (v : Value) (xs : List Int) (left : Int) (w : World) (h : Rd w v xs) (h0 : 0 ≤ left) (h1 : left ≤ 16777216) :
    Calls Try.prog 36 #[v, .int .i64 left] w fun e w' => e = .returned (.int .i64 (szI xs.length left)) ∧ Below w.heap.size w w' := by
  obtain ⟨A, c, rfl, hl1, hm1, -⟩ := h
  unfold maxLen at hm1
  by_cases hz : 0 ≤ left - (xs.length : Int)
  all_goals
    go_enter Try.func36, Try.ntmps36
    go_wp2
    go_ret
    first
      | exact ⟨ret_int (szI_yes hz).symm, Below.refl _ _⟩
      | exact ⟨ret_int (szI_no (by omega)).symm, Below.refl _ _⟩
set_option maxHeartbeats 400000 in
theorem szTour_any (s : Int) (sl : Value) (xs : List Int) (left : Int) (w : World) (h : Rd w sl xs) (h0 : 0 ≤ left) (h1 : left ≤ 16777216) :
    Calls Try.prog 8 #[.agg #[.int .i64 s, sl], .int .i64 left] w fun e w' => e = .returned (.int .i64 (szI xs.length left)) ∧ Below w.heap.size w w' := by
  have HR := Lib.hid h
  obtain ⟨A, c, rfl, -, -, -⟩ := h
  by_cases hz : 0 ≤ left - (xs.length : Int)
  all_goals
    go_enter Try.func8, Try.ntmps8
    go_wp2_with fail
    refine (szIntS_any _ xs left _ (HR.out.alloc _) h0 h1).mono ?_
    rintro e w1 ⟨rfl, hb⟩
    have HB := Lib.hid (Below.then (below_alloc1 _ _) hb)
    clear hb
    first | rw [szI_yes (by omega)] | rw [szI_no (by omega)]
    go_wp2
    go_ret
    first
      | exact ⟨ret_int (szI_yes (by omega)).symm, HB.out⟩
      | exact ⟨ret_int (szI_no (by omega)).symm, HB.out⟩
set_option maxHeartbeats 400000 in
theorem toTour_any (s : Int) (sl : Value) (xs : List Int) (w : World) (h : Rd w sl xs) (hlen : xs.length ≤ 2097152) :
    Calls Try.prog 10 #[.agg #[.int .i64 s, sl]] w fun e w' => ∃ sl', e = .returned (.agg #[.int .i64 s, sl']) ∧ Own w' w.heap.size sl' xs ∧ Below w.heap.size w w' := by
  have HR := Lib.hid h
  obtain ⟨A, c, rfl, -, -, -⟩ := h
  go_enter Try.func10, Try.ntmps10
  go_wp2_with fail
  refine (toIntS_any _ xs _ (((HR.out.alloc _).alloc _).alloc _) hlen).mono ?_
  rintro e w1 ⟨sl', rfl, ho, hb⟩
  obtain ⟨A', c', rfl, -, -, -⟩ := ho.form
  have hs := hb.size
  simp at hs
  obtain ⟨hc, hf⟩ := bcell hb
  have HB := Lib.hid hb
  have HO := Lib.hid ho
  have F1 : ∀ o, w1.cell? ⟨w.heap.size + 1, o, none⟩ = _ := fun o => hc _ _ (by simp)
  have F2 : ∀ o, w1.cell? ⟨w.heap.size + 1 + 1, o, none⟩ = _ := fun o => hc _ _ (by simp)
  have G1 : ∀ o, w1.frozen? ⟨w.heap.size + 1, o, none⟩ = _ := fun o => hf _ _ (by simp)
  have G2 : ∀ o, w1.frozen? ⟨w.heap.size + 1 + 1, o, none⟩ = _ := fun o => hf _ _ (by simp)
  clear hb ho hc hf
  go_wp2
  have q0 : w1.cell? ⟨w.heap.size + 1, 0, none⟩ = some (.int .i64 0) := (F1 0).trans (by simp [go_sem])
  have q1 : w1.cell? ⟨w.heap.size + 1, 1, none⟩ = some (.slice none 0 0) := (F1 1).trans (by simp [go_sem])
  have RB := read_back (w1 := w1) (g := w.heap.size + 1) (h := w.heap.size + 1 + 1) (by omega) q0 q1 (u := .int .i64 s) (v := .slice A' xs.length c') (z := .slice A' xs.length c')
  obtain ⟨r0, r1⟩ := RB
  have hb' := HB.out
  have hlt : ∀ k, (Value.slice A' xs.length c').ownBlock = some k → w.heap.size + 1 + 1 + 1 ≤ k := fun k hk => by have := (HO.out.lt k hk).1; simp at this; omega
  have e1 : Below w.heap.size w w1 := Below.then (((below_alloc1 _ _).alloc (by simp) _).alloc (by simp; omega) _) hb'
  have ho1 := ((HO.out.kept (setCell_grown w1 ⟨w.heap.size + 1 + 1, 1, none⟩ (.slice A' xs.length c')) (own_ne hlt (by simp; try omega))).kept (setCell_grown _ ⟨w.heap.size + 1, 0, none⟩ (.int .i64 s)) (own_ne hlt (by simp; try omega))).kept (setCell_grown _ ⟨w.heap.size + 1, 1, none⟩ (.slice A' xs.length c')) (own_ne hlt (by simp; try omega))
  have e2 := ((e1.setCell (p := ⟨w.heap.size + 1 + 1, 1, none⟩) (by simp; omega) (.slice A' xs.length c')).setCell (p := ⟨w.heap.size + 1, 0, none⟩) (by simp) (.int .i64 s)).setCell (p := ⟨w.heap.size + 1, 1, none⟩) (by simp) (.slice A' xs.length c')
  refine bodyPost_ret (v := .agg #[.int .i64 s, .slice A' xs.length c']) (by simp only [results, Try.results10]; simp [go_sem, r0, r1]) rfl ⟨_, rfl, ho1.mono (by simp; omega), e2⟩
set_option maxHeartbeats 400000 in
theorem eqTour_refl (s : Int) (v1 v2 : Value) (xs : List Int) (w : World) (h1 : Rd w v1 xs) (h2 : Rd w v2 xs) :
    Calls Try.prog 12 #[.agg #[.int .i64 s, v1], .agg #[.int .i64 s, v2]] w fun e w' => e = .returned (.bool true) ∧ Below w.heap.size w w' := by
  have H1 := Lib.hid h1
  have H2 := Lib.hid h2
  obtain ⟨A, c, rfl, -, -, -⟩ := h1
  obtain ⟨B, d, rfl, -, -, -⟩ := h2
  have hne : (s != s) = false := by simp
  go_enter Try.func12, Try.ntmps12
  go_wp2_with fail
  refine (of_drew (eqIntS_refl _ _ xs _ ((H1.out.alloc _).alloc _) ((H2.out.alloc _).alloc _))).mono ?_
  rintro e w1 ⟨rfl, hb⟩
  have HB := Lib.hid (Below.then ((below_alloc1 _ _).alloc (by simp) _) hb)
  clear hb
  go_wp2
  go_ret
  exact ⟨rfl, HB.out⟩
end Go.Proofs.Ytceeplhkokajhab
