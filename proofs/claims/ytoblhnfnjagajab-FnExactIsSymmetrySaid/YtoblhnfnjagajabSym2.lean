/- FnExactIsSymmetry: the functions. -/
import Derived.Test.YtoblhnfnjagajabSym
namespace Go.Proofs.Ytoblhnfnjagajab
open Go.RowKit Go.Sort
set_option maxRecDepth 100000
theorem rnR_len (s : Int) (xs ns : List Int) (h : rnOk s xs ns = true) : 1 ≤ s := by
  unfold rnOk at h
  rw [Bool.and_eq_true] at h
  exact (tourB_true.1 h.1).1.1
set_option maxHeartbeats 1000000 in
theorem implSym (s : Int) (sl : Value) (xs : List Int) (nv : Value) (ns : List Int) (w : World) (h : Rd w sl xs) (h2 : Rd w nv ns) (hl : ns.length ≤ 1099511627776) :
    Calls Try.prog 19 #[.agg #[.int .i64 s, sl], nv] w fun e w' => e = .returned (.bool (symB s xs ns)) ∧ Below w.heap.size w w' := by
  have HR := Lib.hid h
  have HW := Lib.hid h2
  obtain ⟨A, c, rfl, -, hcm, -⟩ := h
  unfold maxLen at hcm
  obtain ⟨B, d, rfl, -, -, -⟩ := h2
  rcases q0 : rnOk s xs ns with _ | _
  · go_enter Try.func19, Try.ntmps19
    go_wp2_with fail
    have b0 := below_alloc1 w (.cells #[.int .i64 s, .slice A xs.length c] 27)
    have x0 := TBox.new w s (.slice A xs.length c) 27
    generalize w.alloc (.cells #[.int .i64 s, .slice A xs.length c] 27) = w0 at *
    have HX0 := Lib.hid x0
    have HB0 := Lib.hid b0
    clear x0 b0
    have y0_0 := HX0.out.1
    have y1_0 := HX0.out.2
    go_wp2_with fail
    refine (implRename s _ xs _ ns _ (HR.out.below HB0.out) (HW.out.below HB0.out) hl).mono ?_
    rintro e w1 ⟨sl', rfl, ho, hb⟩
    obtain ⟨Y, cy, rfl, -, -, -⟩ := ho.form
    rw [q0]
    have HB1 := Lib.hid ((Below.then HB0.out hb).alloc (Nat.le_trans HB0.out.size hb.size) (.cells #[.int .i64 (rnS s xs ns), .slice Y (rnR s xs ns).length cy] 27))
    clear hb ho
    go_wp2
    go_ret
    exact ⟨ret_bool (by rw [symB, q0]; rfl), HB1.out⟩
  · have hs1 := rnR_len s xs ns q0
    obtain ⟨m, rfl⟩ := Int.eq_ofNat_of_zero_le (show 0 ≤ s by omega)
    go_enter Try.func19, Try.ntmps19
    go_wp2_with fail
    have b0 := below_alloc1 w (.cells #[.int .i64 m, .slice A xs.length c] 27)
    have x0 := TBox.new w m (.slice A xs.length c) 27
    generalize w.alloc (.cells #[.int .i64 m, .slice A xs.length c] 27) = w0 at *
    have HX0 := Lib.hid x0
    have HB0 := Lib.hid b0
    clear x0 b0
    have y0_0 := HX0.out.1
    have y1_0 := HX0.out.2
    go_wp2_with fail
    refine (implRename m _ xs _ ns _ (HR.out.below HB0.out) (HW.out.below HB0.out) hl).mono ?_
    rintro e w1 ⟨sl', rfl, ho, hb⟩
    rw [(rn_yes q0).1, (rn_yes q0).2] at *
    obtain ⟨Y, cy, rfl, hym, -, -⟩ := ho.form
    unfold maxLen at hym
    rw [q0]
    have HSY : Hid (symB (m : Int) xs ns = decide (xs = rnL xs ns)) := by unfold Hid; rw [symB, q0]; rfl
    generalize rnL xs ns = L at *
    have hX1 := HX0.out.below hb
    have bb := below_alloc1 w1 (.cells #[.int .i64 m, .slice Y L.length cy] 27)
    have hXW := hX1.below bb
    have yw0 := hXW.1
    have yw1 := hXW.2
    have HBW := Lib.hid (Below.then (Below.then HB0.out hb) bb)
    have HOW := Lib.hid (ho.below bb)
    clear hb ho hX1 bb hXW y0_0 y1_0
    go_wp2_with fail
    refine (same_any m (.slice A xs.length c) _ xs L _ (HR.out.below HBW.out) HOW.out.rd).mono ?_
    rintro e w2 ⟨rfl, hb2⟩
    have HB2 := Lib.hid (Below.then HBW.out hb2)
    clear hb2 yw0 yw1
    go_wp2
    go_ret
    exact ⟨ret_bool (by first | exact HSY.out.symm | (rw [HSY.out]; exact decide_eq_decide.2 ⟨Eq.symm, Eq.symm⟩)), HB2.out⟩
set_option maxHeartbeats 1000000 in
theorem specSym (s : Int) (sl : Value) (xs : List Int) (nv : Value) (ns : List Int) (w : World) (h : Rd w sl xs) (h2 : Rd w nv ns) (_hl : ns.length ≤ 1099511627776) :
    Calls Try.prog 16 #[.agg #[.int .i64 s, sl], nv] w fun e w' => e = .returned (.bool (symB s xs ns)) ∧ Below w.heap.size w w' := by
  have HR := Lib.hid h
  have HW := Lib.hid h2
  obtain ⟨A, c, rfl, -, hcm, -⟩ := h
  unfold maxLen at hcm
  obtain ⟨B, d, rfl, -, -, -⟩ := h2
  rcases q0 : rnOk s xs ns with _ | _
  · go_enter Try.func16, Try.ntmps16
    go_wp2_with fail
    have b0 := below_alloc1 w (.cells #[.int .i64 s, .slice A xs.length c] 27)
    have x0 := TBox.new w s (.slice A xs.length c) 27
    generalize w.alloc (.cells #[.int .i64 s, .slice A xs.length c] 27) = w0 at *
    have HX0 := Lib.hid x0
    have HB0 := Lib.hid b0
    clear x0 b0
    have y0_0 := HX0.out.1
    have y1_0 := HX0.out.2
    go_wp2_with fail
    refine (specRename s _ xs _ ns _ (HR.out.below HB0.out) (HW.out.below HB0.out)).mono ?_
    rintro e w1 ⟨sl', rfl, ho, hb⟩
    obtain ⟨Y, cy, rfl, -, -, -⟩ := ho.form
    rw [q0]
    have HB1 := Lib.hid ((Below.then HB0.out hb).alloc (Nat.le_trans HB0.out.size hb.size) (.cells #[.int .i64 (rnS s xs ns), .slice Y (rnR s xs ns).length cy] 27))
    clear hb ho
    go_wp2
    go_ret
    exact ⟨ret_bool (by rw [symB, q0]; rfl), HB1.out⟩
  · have hs1 := rnR_len s xs ns q0
    obtain ⟨m, rfl⟩ := Int.eq_ofNat_of_zero_le (show 0 ≤ s by omega)
    go_enter Try.func16, Try.ntmps16
    go_wp2_with fail
    have b0 := below_alloc1 w (.cells #[.int .i64 m, .slice A xs.length c] 27)
    have x0 := TBox.new w m (.slice A xs.length c) 27
    generalize w.alloc (.cells #[.int .i64 m, .slice A xs.length c] 27) = w0 at *
    have HX0 := Lib.hid x0
    have HB0 := Lib.hid b0
    clear x0 b0
    have y0_0 := HX0.out.1
    have y1_0 := HX0.out.2
    go_wp2_with fail
    refine (specRename m _ xs _ ns _ (HR.out.below HB0.out) (HW.out.below HB0.out)).mono ?_
    rintro e w1 ⟨sl', rfl, ho, hb⟩
    rw [(rn_yes q0).1, (rn_yes q0).2] at *
    obtain ⟨Y, cy, rfl, hym, -, -⟩ := ho.form
    unfold maxLen at hym
    rw [q0]
    have HSY : Hid (symB (m : Int) xs ns = decide (xs = rnL xs ns)) := by unfold Hid; rw [symB, q0]; rfl
    generalize rnL xs ns = L at *
    have hX1 := HX0.out.below hb
    have bb := below_alloc1 w1 (.cells #[.int .i64 m, .slice Y L.length cy] 27)
    have hXW := hX1.below bb
    have yw0 := hXW.1
    have yw1 := hXW.2
    have HBW := Lib.hid (Below.then (Below.then HB0.out hb) bb)
    have HOW := Lib.hid (ho.below bb)
    clear hb ho hX1 bb hXW y0_0 y1_0
    go_wp2_with fail
    refine (of_same (l04Same_any _ (.slice A xs.length c) L xs _ HOW.out.rd (HR.out.below HBW.out))).mono ?_
    rintro e w2 ⟨rfl, hb2⟩
    have HB2 := Lib.hid (Below.then HBW.out hb2)
    clear hb2 yw0 yw1
    go_wp2
    go_ret
    exact ⟨ret_bool (by first | exact HSY.out.symm | (rw [HSY.out]; exact decide_eq_decide.2 ⟨Eq.symm, Eq.symm⟩)), HB2.out⟩
end Go.Proofs.Ytoblhnfnjagajab
