/- RenameTour; FnExactIsSymmetry: the functions. -/
import Derived.Test.YtoblhnfnjagajabRen2
import Derived.Test.YtoblhnfnjagajabPerm2
import Derived.Test.YtoblhnfnjagajabTourOkS
import Derived.Test.YtoblhnfnjagajabTourLw
namespace Go.Proofs.Ytoblhnfnjagajab
open Go.RowKit Go.Sort
set_option maxRecDepth 100000

noncomputable def rnOk (s : Int) (xs ns : List Int) : Bool := tourB s xs && permB xs.length ns
noncomputable def rnS (s : Int) (xs ns : List Int) : Int := if rnOk s xs ns = true then s else 0
noncomputable def rnR (s : Int) (xs ns : List Int) : List Int := if rnOk s xs ns = true then rnL xs ns else []
theorem rn_no {s : Int} {xs ns : List Int} (h : rnOk s xs ns = false) : rnS s xs ns = 0 ∧ rnR s xs ns = [] := by simp [rnS, rnR, h]
theorem rn_yes {s : Int} {xs ns : List Int} (h : rnOk s xs ns = true) : rnS s xs ns = s ∧ rnR s xs ns = rnL xs ns := by simp [rnS, rnR, h]
theorem perm_len_ {n : Nat} {ns : List Int} (h : ns.length ≠ n) : permB n ns = false := permB_false.2 fun hp => h hp.1
noncomputable def symB (s : Int) (xs ns : List Int) : Bool := rnOk s xs ns && decide (xs = rnL xs ns)
set_option maxHeartbeats 1000000 in
theorem implRename (s : Int) (sl : Value) (xs : List Int) (nv : Value) (ns : List Int) (w : World) (h : Rd w sl xs) (h2 : Rd w nv ns) (hl : ns.length ≤ 1099511627776) :
    Calls Try.prog 54 #[.agg #[.int .i64 s, sl], nv] w fun e w' => ∃ sl', e = .returned (.tuple #[.agg #[.int .i64 (rnS s xs ns), sl'], .bool (rnOk s xs ns)]) ∧ Own w' w.heap.size sl' (rnR s xs ns) ∧ Below w.heap.size w w' := by
  have HR := Lib.hid h
  have HW := Lib.hid h2
  obtain ⟨A, c, rfl, -, -, -⟩ := h
  obtain ⟨B, d, rfl, -, hdm, -⟩ := h2
  unfold maxLen at hdm
  rcases q0 : tourB s xs with _ | _
  case false =>
    go_enter Try.func54, Try.ntmps54
    go_wp2_with fail
    have b0 := (below_alloc1 w (.cells #[.int .i64 s, .slice A xs.length c] 27)).alloc (by simp) (.cells #[.int .i64 0, .slice none 0 0] 27)
    have x0 := (TBox.new w s (.slice A xs.length c) 27).below (below_alloc1 _ (.cells #[.int .i64 0, .slice none 0 0] 27))
    have t0 := BoxF.new (w.alloc (.cells #[.int .i64 s, .slice A xs.length c] 27)) 0 (.slice none 0 0) 27
    simp only [World.size_alloc] at t0
    generalize (w.alloc (.cells #[.int .i64 s, .slice A xs.length c] 27)).alloc (.cells #[.int .i64 0, .slice none 0 0] 27) = w0 at *
    have HX0 := Lib.hid x0
    have HB0 := Lib.hid b0
    have HT0 := Lib.hid t0
    clear x0 b0 t0
    have y0_0 := HX0.out.1
    have y1_0 := HX0.out.2
    go_wp2_with fail
    refine (implTourOk s _ xs _ (HR.out.below HB0.out)).mono ?_
    rintro e w1 ⟨rfl, hb⟩
    have HX1 := Lib.hid (HX0.out.below hb)
    have HT1 := Lib.hid (HT0.out.below hb)
    have HB1 := Lib.hid (Below.then HB0.out hb)
    clear hb HX0 HT0 HB0 y0_0 y1_0
    have y0_1 := HX1.out.1
    have y1_1 := HX1.out.2
    rw [q0]
    have v0 := HT1.out.1.1
    have v1 := HT1.out.1.2
    have f0 := HT1.out.2 0
    have f1 := HT1.out.2 1
    have HBx := Lib.hid ((HB1.out.setCell (p := ⟨w.heap.size + 1, 0, none⟩) (by simp) (.int .i64 0)).setCell (p := ⟨w.heap.size + 1, 1, none⟩) (by simp) (.slice none 0 0))
    have R0 : Hid (((w1.setCell ⟨w.heap.size + 1, 0, none⟩ (.int .i64 0)).setCell ⟨w.heap.size + 1, 1, none⟩ (.slice none 0 0)).cell? ⟨w.heap.size + 1, 0, none⟩ = some (.int .i64 0)) := (World.cell?_setCell_other _ _ _ _ (by simp)).trans (World.cell?_setCell_same _ _ _ v0)
    have R1 : Hid (((w1.setCell ⟨w.heap.size + 1, 0, none⟩ (.int .i64 0)).setCell ⟨w.heap.size + 1, 1, none⟩ (.slice none 0 0)).cell? ⟨w.heap.size + 1, 1, none⟩ = some (.slice none 0 0)) := World.cell?_setCell_same _ _ _ ((World.cell?_setCell_other _ _ _ _ (by simp)).trans v1)
    go_wp2
    have r0 := R0.out
    have r1 := R1.out
    have hno : rnOk s xs ns = false := by first | (simp [rnOk, q0]; done) | (rw [rnOk, perm_len_ (by have := hl2.out; simp at q1; omega)]; simp; done) | (rw [rnOk, ← hle.out, q2]; simp; done)
    refine bodyPost_ret (v := .tuple #[.agg #[.int .i64 0, .slice none 0 0], .bool false]) (by simp only [results, Try.results54]; simp [go_sem, r0, r1]) rfl ⟨_, by rw [(rn_no hno).1, hno], by rw [(rn_no hno).2]; exact Own.nil_ _ _, HBx.out⟩
  have hp := tourB_true.1 q0
  have hs := hp.1
  have hl2 := Lib.hid hp.2.1
  rcases q1 : ((ns.length : Int) != s) with _ | _
  case true =>
    go_enter Try.func54, Try.ntmps54
    go_wp2_with fail
    have b0 := (below_alloc1 w (.cells #[.int .i64 s, .slice A xs.length c] 27)).alloc (by simp) (.cells #[.int .i64 0, .slice none 0 0] 27)
    have x0 := (TBox.new w s (.slice A xs.length c) 27).below (below_alloc1 _ (.cells #[.int .i64 0, .slice none 0 0] 27))
    have t0 := BoxF.new (w.alloc (.cells #[.int .i64 s, .slice A xs.length c] 27)) 0 (.slice none 0 0) 27
    simp only [World.size_alloc] at t0
    generalize (w.alloc (.cells #[.int .i64 s, .slice A xs.length c] 27)).alloc (.cells #[.int .i64 0, .slice none 0 0] 27) = w0 at *
    have HX0 := Lib.hid x0
    have HB0 := Lib.hid b0
    have HT0 := Lib.hid t0
    clear x0 b0 t0
    have y0_0 := HX0.out.1
    have y1_0 := HX0.out.2
    go_wp2_with fail
    refine (implTourOk s _ xs _ (HR.out.below HB0.out)).mono ?_
    rintro e w1 ⟨rfl, hb⟩
    have HX1 := Lib.hid (HX0.out.below hb)
    have HT1 := Lib.hid (HT0.out.below hb)
    have HB1 := Lib.hid (Below.then HB0.out hb)
    clear hb HX0 HT0 HB0 y0_0 y1_0
    have y0_1 := HX1.out.1
    have y1_1 := HX1.out.2
    rw [q0]
    have v0 := HT1.out.1.1
    have v1 := HT1.out.1.2
    have f0 := HT1.out.2 0
    have f1 := HT1.out.2 1
    have HBx := Lib.hid ((HB1.out.setCell (p := ⟨w.heap.size + 1, 0, none⟩) (by simp) (.int .i64 0)).setCell (p := ⟨w.heap.size + 1, 1, none⟩) (by simp) (.slice none 0 0))
    have R0 : Hid (((w1.setCell ⟨w.heap.size + 1, 0, none⟩ (.int .i64 0)).setCell ⟨w.heap.size + 1, 1, none⟩ (.slice none 0 0)).cell? ⟨w.heap.size + 1, 0, none⟩ = some (.int .i64 0)) := (World.cell?_setCell_other _ _ _ _ (by simp)).trans (World.cell?_setCell_same _ _ _ v0)
    have R1 : Hid (((w1.setCell ⟨w.heap.size + 1, 0, none⟩ (.int .i64 0)).setCell ⟨w.heap.size + 1, 1, none⟩ (.slice none 0 0)).cell? ⟨w.heap.size + 1, 1, none⟩ = some (.slice none 0 0)) := World.cell?_setCell_same _ _ _ ((World.cell?_setCell_other _ _ _ _ (by simp)).trans v1)
    go_wp2
    have r0 := R0.out
    have r1 := R1.out
    have hno : rnOk s xs ns = false := by first | (simp [rnOk, q0]; done) | (rw [rnOk, perm_len_ (by have := hl2.out; simp at q1; omega)]; simp; done) | (rw [rnOk, ← hle.out, q2]; simp; done)
    refine bodyPost_ret (v := .tuple #[.agg #[.int .i64 0, .slice none 0 0], .bool false]) (by simp only [results, Try.results54]; simp [go_sem, r0, r1]) rfl ⟨_, by rw [(rn_no hno).1, hno], by rw [(rn_no hno).2]; exact Own.nil_ _ _, HBx.out⟩
  have hle : Hid (ns.length = xs.length) := by have := hl2.out; simp at q1; unfold Hid; omega
  rcases q2 : permB ns.length ns with _ | _
  case false =>
    go_enter Try.func54, Try.ntmps54
    go_wp2_with fail
    have b0 := (below_alloc1 w (.cells #[.int .i64 s, .slice A xs.length c] 27)).alloc (by simp) (.cells #[.int .i64 0, .slice none 0 0] 27)
    have x0 := (TBox.new w s (.slice A xs.length c) 27).below (below_alloc1 _ (.cells #[.int .i64 0, .slice none 0 0] 27))
    have t0 := BoxF.new (w.alloc (.cells #[.int .i64 s, .slice A xs.length c] 27)) 0 (.slice none 0 0) 27
    simp only [World.size_alloc] at t0
    generalize (w.alloc (.cells #[.int .i64 s, .slice A xs.length c] 27)).alloc (.cells #[.int .i64 0, .slice none 0 0] 27) = w0 at *
    have HX0 := Lib.hid x0
    have HB0 := Lib.hid b0
    have HT0 := Lib.hid t0
    clear x0 b0 t0
    have y0_0 := HX0.out.1
    have y1_0 := HX0.out.2
    go_wp2_with fail
    refine (implTourOk s _ xs _ (HR.out.below HB0.out)).mono ?_
    rintro e w1 ⟨rfl, hb⟩
    have HX1 := Lib.hid (HX0.out.below hb)
    have HT1 := Lib.hid (HT0.out.below hb)
    have HB1 := Lib.hid (Below.then HB0.out hb)
    clear hb HX0 HT0 HB0 y0_0 y1_0
    have y0_1 := HX1.out.1
    have y1_1 := HX1.out.2
    rw [q0]
    go_wp2_with fail
    refine (isOrder_any _ ns _ (HW.out.below HB1.out) hl).mono ?_
    rintro e w2 ⟨rfl, hb⟩
    have HX2 := Lib.hid (HX1.out.below hb)
    have HT2 := Lib.hid (HT1.out.below hb)
    have HB2 := Lib.hid (Below.then HB1.out hb)
    clear hb HX1 HT1 HB1 y0_1 y1_1
    have y0_2 := HX2.out.1
    have y1_2 := HX2.out.2
    rw [q2]
    have v0 := HT2.out.1.1
    have v1 := HT2.out.1.2
    have f0 := HT2.out.2 0
    have f1 := HT2.out.2 1
    have HBx := Lib.hid ((HB2.out.setCell (p := ⟨w.heap.size + 1, 0, none⟩) (by simp) (.int .i64 0)).setCell (p := ⟨w.heap.size + 1, 1, none⟩) (by simp) (.slice none 0 0))
    have R0 : Hid (((w2.setCell ⟨w.heap.size + 1, 0, none⟩ (.int .i64 0)).setCell ⟨w.heap.size + 1, 1, none⟩ (.slice none 0 0)).cell? ⟨w.heap.size + 1, 0, none⟩ = some (.int .i64 0)) := (World.cell?_setCell_other _ _ _ _ (by simp)).trans (World.cell?_setCell_same _ _ _ v0)
    have R1 : Hid (((w2.setCell ⟨w.heap.size + 1, 0, none⟩ (.int .i64 0)).setCell ⟨w.heap.size + 1, 1, none⟩ (.slice none 0 0)).cell? ⟨w.heap.size + 1, 1, none⟩ = some (.slice none 0 0)) := World.cell?_setCell_same _ _ _ ((World.cell?_setCell_other _ _ _ _ (by simp)).trans v1)
    go_wp2
    have r0 := R0.out
    have r1 := R1.out
    have hno : rnOk s xs ns = false := by first | (simp [rnOk, q0]; done) | (rw [rnOk, perm_len_ (by have := hl2.out; simp at q1; omega)]; simp; done) | (rw [rnOk, ← hle.out, q2]; simp; done)
    refine bodyPost_ret (v := .tuple #[.agg #[.int .i64 0, .slice none 0 0], .bool false]) (by simp only [results, Try.results54]; simp [go_sem, r0, r1]) rfl ⟨_, by rw [(rn_no hno).1, hno], by rw [(rn_no hno).2]; exact Own.nil_ _ _, HBx.out⟩
  have hyes : rnOk s xs ns = true := by rw [rnOk, ← hle.out, q2, q0]; rfl
  have he := rn_yes hyes
  have hPP := permB_true.1 q2
  rw [hle.out] at hPP
  rw [he.1, he.2, hyes]
  go_enter Try.func54, Try.ntmps54
  go_wp2_with fail
  have b0 := (below_alloc1 w (.cells #[.int .i64 s, .slice A xs.length c] 27)).alloc (by simp) (.cells #[.int .i64 0, .slice none 0 0] 27)
  have x0 := (TBox.new w s (.slice A xs.length c) 27).below (below_alloc1 _ (.cells #[.int .i64 0, .slice none 0 0] 27))
  have t0 := BoxF.new (w.alloc (.cells #[.int .i64 s, .slice A xs.length c] 27)) 0 (.slice none 0 0) 27
  simp only [World.size_alloc] at t0
  generalize (w.alloc (.cells #[.int .i64 s, .slice A xs.length c] 27)).alloc (.cells #[.int .i64 0, .slice none 0 0] 27) = w0 at *
  have HX0 := Lib.hid x0
  have HB0 := Lib.hid b0
  have HT0 := Lib.hid t0
  clear x0 b0 t0
  have y0_0 := HX0.out.1
  have y1_0 := HX0.out.2
  go_wp2_with fail
  refine (implTourOk s _ xs _ (HR.out.below HB0.out)).mono ?_
  rintro e w1 ⟨rfl, hb⟩
  have HX1 := Lib.hid (HX0.out.below hb)
  have HT1 := Lib.hid (HT0.out.below hb)
  have HB1 := Lib.hid (Below.then HB0.out hb)
  clear hb HX0 HT0 HB0 y0_0 y1_0
  have y0_1 := HX1.out.1
  have y1_1 := HX1.out.2
  rw [q0]
  go_wp2_with fail
  refine (isOrder_any _ ns _ (HW.out.below HB1.out) hl).mono ?_
  rintro e w2 ⟨rfl, hb⟩
  have HX2 := Lib.hid (HX1.out.below hb)
  have HT2 := Lib.hid (HT1.out.below hb)
  have HB2 := Lib.hid (Below.then HB1.out hb)
  clear hb HX1 HT1 HB1 y0_1 y1_1
  have y0_2 := HX2.out.1
  have y1_2 := HX2.out.2
  rw [q2]
  go_wp2_with fail
  refine (renamed_any s _ xs ns _ _ (HR.out.below HB2.out) hp (HW.out.below HB2.out) hPP).mono ?_
  rintro e w4 ⟨sl', rfl, ho, hF, hb4⟩
  obtain ⟨Y, cy, rfl, -, -, -⟩ := ho.form
  have HT4 := HT2.out.below hb4
  have HB4 := Below.then HB2.out hb4
  have v0 := HT4.1.1
  have v1 := HT4.1.2
  have f0 := HT4.2 0
  have f1 := HT4.2 1
  clear hF
  have hgt := (HT4).gt
  have HOx := Lib.hid ((ho.kept (setCell_grown _ ⟨w.heap.size + 1, 0, none⟩ (.int .i64 s)) (own_ne (fun k hk => (ho.lt k hk).1) (by first | exact (HT1.out).gt | exact (HT0.out).gt | exact (HT2.out).gt | exact (HT3.out).gt | exact (HT4.out).gt | (simp; omega)))).kept (setCell_grown _ ⟨w.heap.size + 1, 1, none⟩ (.slice Y (rnL xs ns).length cy)) (own_ne (fun k hk => (ho.lt k hk).1) (by first | exact (HT1.out).gt | exact (HT0.out).gt | exact (HT2.out).gt | exact (HT3.out).gt | exact (HT4.out).gt | (simp; omega))))
  have HBx := Lib.hid ((HB4.setCell (p := ⟨w.heap.size + 1, 0, none⟩) (by simp) (.int .i64 s)).setCell (p := ⟨w.heap.size + 1, 1, none⟩) (by simp) (.slice Y (rnL xs ns).length cy))
  have R0 : Hid (((w4.setCell ⟨w.heap.size + 1, 0, none⟩ (.int .i64 s)).setCell ⟨w.heap.size + 1, 1, none⟩ (.slice Y (rnL xs ns).length cy)).cell? ⟨w.heap.size + 1, 0, none⟩ = some (.int .i64 s)) := (World.cell?_setCell_other _ _ _ _ (by simp)).trans (World.cell?_setCell_same _ _ _ v0)
  have R1 : Hid (((w4.setCell ⟨w.heap.size + 1, 0, none⟩ (.int .i64 s)).setCell ⟨w.heap.size + 1, 1, none⟩ (.slice Y (rnL xs ns).length cy)).cell? ⟨w.heap.size + 1, 1, none⟩ = some (.slice Y (rnL xs ns).length cy)) := World.cell?_setCell_same _ _ _ ((World.cell?_setCell_other _ _ _ _ (by simp)).trans v1)
  go_wp2
  have r0 := R0.out
  have r1 := R1.out
  refine bodyPost_ret (v := .tuple #[.agg #[.int .i64 s, .slice Y (rnL xs ns).length cy], .bool true]) (by simp only [results, Try.results54]; simp [go_sem, r0, r1]) rfl ⟨_, rfl, HOx.out.mono (by first | exact HB0.out.size | exact HB1.out.size | exact HB2.out.size | exact HB3.out.size | exact HB4.out.size), HBx.out⟩
set_option maxHeartbeats 1000000 in
theorem specRename (s : Int) (sl : Value) (xs : List Int) (nv : Value) (ns : List Int) (w : World) (h : Rd w sl xs) (h2 : Rd w nv ns) :
    Calls Try.prog 52 #[.agg #[.int .i64 s, sl], nv] w fun e w' => ∃ sl', e = .returned (.tuple #[.agg #[.int .i64 (rnS s xs ns), sl'], .bool (rnOk s xs ns)]) ∧ Own w' w.heap.size sl' (rnR s xs ns) ∧ Below w.heap.size w w' := by
  have HR := Lib.hid h
  have HW := Lib.hid h2
  obtain ⟨A, c, rfl, -, -, -⟩ := h
  obtain ⟨B, d, rfl, -, hdm, -⟩ := h2
  unfold maxLen at hdm
  rcases q0 : tourB s xs with _ | _
  · have hno : rnOk s xs ns = false := by simp [rnOk, q0]
    rw [(rn_no hno).1, (rn_no hno).2, hno]
    go_enter Try.func52, Try.ntmps52
    go_wp2_with fail
    have b0 := (below_alloc1 w (.cells #[.int .i64 s, .slice A xs.length c] 27)).alloc (by simp) (.cells #[.int .i64 0, .slice none 0 0] 27)
    have x0 := (TBox.new w s (.slice A xs.length c) 27).below (below_alloc1 _ (.cells #[.int .i64 0, .slice none 0 0] 27))
    have t0 := BoxF.new (w.alloc (.cells #[.int .i64 s, .slice A xs.length c] 27)) 0 (.slice none 0 0) 27
    simp only [World.size_alloc] at t0
    generalize (w.alloc (.cells #[.int .i64 s, .slice A xs.length c] 27)).alloc (.cells #[.int .i64 0, .slice none 0 0] 27) = w0 at *
    have HX0 := Lib.hid x0
    have HB0 := Lib.hid b0
    have HT0 := Lib.hid t0
    clear x0 b0 t0
    have y0_0 := HX0.out.1
    have y1_0 := HX0.out.2
    go_wp2_with fail
    refine (specTourOk s _ xs _ (HR.out.below HB0.out)).mono ?_
    rintro e w1 ⟨rfl, hb⟩
    have HX1 := Lib.hid (HX0.out.below hb)
    have HT1 := Lib.hid (HT0.out.below hb)
    have HB1 := Lib.hid (Below.then HB0.out hb)
    clear hb HX0 HT0 HB0 y0_0 y1_0
    have y0_1 := HX1.out.1
    have y1_1 := HX1.out.2
    rw [q0]
    have v0 := HT1.out.1.1
    have v1 := HT1.out.1.2
    have f0 := HT1.out.2 0
    have f1 := HT1.out.2 1
    have HBx := Lib.hid ((HB1.out.setCell (p := ⟨w.heap.size + 1, 0, none⟩) (by simp) (.int .i64 0)).setCell (p := ⟨w.heap.size + 1, 1, none⟩) (by simp) (.slice none 0 0))
    have R0 : Hid (((w1.setCell ⟨w.heap.size + 1, 0, none⟩ (.int .i64 0)).setCell ⟨w.heap.size + 1, 1, none⟩ (.slice none 0 0)).cell? ⟨w.heap.size + 1, 0, none⟩ = some (.int .i64 0)) := (World.cell?_setCell_other _ _ _ _ (by simp)).trans (World.cell?_setCell_same _ _ _ v0)
    have R1 : Hid (((w1.setCell ⟨w.heap.size + 1, 0, none⟩ (.int .i64 0)).setCell ⟨w.heap.size + 1, 1, none⟩ (.slice none 0 0)).cell? ⟨w.heap.size + 1, 1, none⟩ = some (.slice none 0 0)) := World.cell?_setCell_same _ _ _ ((World.cell?_setCell_other _ _ _ _ (by simp)).trans v1)
    go_wp2
    have r0 := R0.out
    have r1 := R1.out
    refine bodyPost_ret (v := .tuple #[.agg #[.int .i64 0, .slice none 0 0], .bool false]) (by simp only [results, Try.results52]; simp [go_sem, r0, r1]) rfl ⟨_, rfl, Own.nil_ _ _, HBx.out⟩
  · have hp := tourB_true.1 q0
    have hs := hp.1
    obtain ⟨n, rfl⟩ := Int.eq_ofNat_of_zero_le (show 0 ≤ s by omega)
    have hln : Hid (xs.length = n) := by have := hp.2.1; unfold Hid; omega
    rcases q1 : permB n ns with _ | _
    · have hno : rnOk (n : Int) xs ns = false := by rw [rnOk, hln.out, q1]; simp
      rw [(rn_no hno).1, (rn_no hno).2, hno]
      go_enter Try.func52, Try.ntmps52
      go_wp2_with fail
      have b0 := (below_alloc1 w (.cells #[.int .i64 n, .slice A xs.length c] 27)).alloc (by simp) (.cells #[.int .i64 0, .slice none 0 0] 27)
      have x0 := (TBox.new w n (.slice A xs.length c) 27).below (below_alloc1 _ (.cells #[.int .i64 0, .slice none 0 0] 27))
      have t0 := BoxF.new (w.alloc (.cells #[.int .i64 n, .slice A xs.length c] 27)) 0 (.slice none 0 0) 27
      simp only [World.size_alloc] at t0
      generalize (w.alloc (.cells #[.int .i64 n, .slice A xs.length c] 27)).alloc (.cells #[.int .i64 0, .slice none 0 0] 27) = w0 at *
      have HX0 := Lib.hid x0
      have HB0 := Lib.hid b0
      have HT0 := Lib.hid t0
      clear x0 b0 t0
      have y0_0 := HX0.out.1
      have y1_0 := HX0.out.2
      go_wp2_with fail
      refine (specTourOk n _ xs _ (HR.out.below HB0.out)).mono ?_
      rintro e w1 ⟨rfl, hb⟩
      have HX1 := Lib.hid (HX0.out.below hb)
      have HT1 := Lib.hid (HT0.out.below hb)
      have HB1 := Lib.hid (Below.then HB0.out hb)
      clear hb HX0 HT0 HB0 y0_0 y1_0
      have y0_1 := HX1.out.1
      have y1_1 := HX1.out.2
      rw [q0]
      go_wp2_with fail
      refine (l02Perm_any n (by omega) _ ns _ (HW.out.below HB1.out)).mono ?_
      rintro e w2 ⟨rfl, hb⟩
      have HX2 := Lib.hid (HX1.out.below hb)
      have HT2 := Lib.hid (HT1.out.below hb)
      have HB2 := Lib.hid (Below.then HB1.out hb)
      clear hb HX1 HT1 HB1 y0_1 y1_1
      have y0_2 := HX2.out.1
      have y1_2 := HX2.out.2
      rw [q1]
      have v0 := HT2.out.1.1
      have v1 := HT2.out.1.2
      have f0 := HT2.out.2 0
      have f1 := HT2.out.2 1
      have HBx := Lib.hid ((HB2.out.setCell (p := ⟨w.heap.size + 1, 0, none⟩) (by simp) (.int .i64 0)).setCell (p := ⟨w.heap.size + 1, 1, none⟩) (by simp) (.slice none 0 0))
      have R0 : Hid (((w2.setCell ⟨w.heap.size + 1, 0, none⟩ (.int .i64 0)).setCell ⟨w.heap.size + 1, 1, none⟩ (.slice none 0 0)).cell? ⟨w.heap.size + 1, 0, none⟩ = some (.int .i64 0)) := (World.cell?_setCell_other _ _ _ _ (by simp)).trans (World.cell?_setCell_same _ _ _ v0)
      have R1 : Hid (((w2.setCell ⟨w.heap.size + 1, 0, none⟩ (.int .i64 0)).setCell ⟨w.heap.size + 1, 1, none⟩ (.slice none 0 0)).cell? ⟨w.heap.size + 1, 1, none⟩ = some (.slice none 0 0)) := World.cell?_setCell_same _ _ _ ((World.cell?_setCell_other _ _ _ _ (by simp)).trans v1)
      go_wp2
      have r0 := R0.out
      have r1 := R1.out
      refine bodyPost_ret (v := .tuple #[.agg #[.int .i64 0, .slice none 0 0], .bool false]) (by simp only [results, Try.results52]; simp [go_sem, r0, r1]) rfl ⟨_, rfl, Own.nil_ _ _, HBx.out⟩
    · have hyes : rnOk (n : Int) xs ns = true := by rw [rnOk, hln.out, q0, q1]; rfl
      have he := rn_yes hyes
      have hPP := permB_true.1 q1
      rw [← hln.out] at hPP
      rw [he.1, he.2, hyes]
      go_enter Try.func52, Try.ntmps52
      go_wp2_with fail
      have b0 := (below_alloc1 w (.cells #[.int .i64 n, .slice A xs.length c] 27)).alloc (by simp) (.cells #[.int .i64 0, .slice none 0 0] 27)
      have x0 := (TBox.new w n (.slice A xs.length c) 27).below (below_alloc1 _ (.cells #[.int .i64 0, .slice none 0 0] 27))
      have t0 := BoxF.new (w.alloc (.cells #[.int .i64 n, .slice A xs.length c] 27)) 0 (.slice none 0 0) 27
      simp only [World.size_alloc] at t0
      generalize (w.alloc (.cells #[.int .i64 n, .slice A xs.length c] 27)).alloc (.cells #[.int .i64 0, .slice none 0 0] 27) = w0 at *
      have HX0 := Lib.hid x0
      have HB0 := Lib.hid b0
      have HT0 := Lib.hid t0
      clear x0 b0 t0
      have y0_0 := HX0.out.1
      have y1_0 := HX0.out.2
      go_wp2_with fail
      refine (specTourOk n _ xs _ (HR.out.below HB0.out)).mono ?_
      rintro e w1 ⟨rfl, hb⟩
      have HX1 := Lib.hid (HX0.out.below hb)
      have HT1 := Lib.hid (HT0.out.below hb)
      have HB1 := Lib.hid (Below.then HB0.out hb)
      clear hb HX0 HT0 HB0 y0_0 y1_0
      have y0_1 := HX1.out.1
      have y1_1 := HX1.out.2
      rw [q0]
      go_wp2_with fail
      refine (l02Perm_any n (by omega) _ ns _ (HW.out.below HB1.out)).mono ?_
      rintro e w2 ⟨rfl, hb⟩
      have HX2 := Lib.hid (HX1.out.below hb)
      have HT2 := Lib.hid (HT1.out.below hb)
      have HB2 := Lib.hid (Below.then HB1.out hb)
      clear hb HX1 HT1 HB1 y0_1 y1_1
      have y0_2 := HX2.out.1
      have y1_2 := HX2.out.2
      rw [q1]
      go_wp2_with fail
      refine (l02Rename_any n _ xs ns _ _ (HR.out.below HB2.out) hp (HW.out.below HB2.out) hPP).mono ?_
      rintro e w4 ⟨sl', rfl, ho, hF, hb4⟩
      obtain ⟨Y, cy, rfl, -, -, -⟩ := ho.form
      have HT4 := HT2.out.below hb4
      have HB4 := Below.then HB2.out hb4
      have v0 := HT4.1.1
      have v1 := HT4.1.2
      have f0 := HT4.2 0
      have f1 := HT4.2 1
      clear hF
      have hgt := (HT4).gt
      have HOx := Lib.hid ((ho.kept (setCell_grown _ ⟨w.heap.size + 1, 0, none⟩ (.int .i64 n)) (own_ne (fun k hk => (ho.lt k hk).1) (by first | exact (HT1.out).gt | exact (HT0.out).gt | exact (HT2.out).gt | exact (HT3.out).gt | exact (HT4.out).gt | (simp; omega)))).kept (setCell_grown _ ⟨w.heap.size + 1, 1, none⟩ (.slice Y (rnL xs ns).length cy)) (own_ne (fun k hk => (ho.lt k hk).1) (by first | exact (HT1.out).gt | exact (HT0.out).gt | exact (HT2.out).gt | exact (HT3.out).gt | exact (HT4.out).gt | (simp; omega))))
      have HBx := Lib.hid ((HB4.setCell (p := ⟨w.heap.size + 1, 0, none⟩) (by simp) (.int .i64 n)).setCell (p := ⟨w.heap.size + 1, 1, none⟩) (by simp) (.slice Y (rnL xs ns).length cy))
      have R0 : Hid (((w4.setCell ⟨w.heap.size + 1, 0, none⟩ (.int .i64 n)).setCell ⟨w.heap.size + 1, 1, none⟩ (.slice Y (rnL xs ns).length cy)).cell? ⟨w.heap.size + 1, 0, none⟩ = some (.int .i64 n)) := (World.cell?_setCell_other _ _ _ _ (by simp)).trans (World.cell?_setCell_same _ _ _ v0)
      have R1 : Hid (((w4.setCell ⟨w.heap.size + 1, 0, none⟩ (.int .i64 n)).setCell ⟨w.heap.size + 1, 1, none⟩ (.slice Y (rnL xs ns).length cy)).cell? ⟨w.heap.size + 1, 1, none⟩ = some (.slice Y (rnL xs ns).length cy)) := World.cell?_setCell_same _ _ _ ((World.cell?_setCell_other _ _ _ _ (by simp)).trans v1)
      go_wp2
      have r0 := R0.out
      have r1 := R1.out
      refine bodyPost_ret (v := .tuple #[.agg #[.int .i64 n, .slice Y (rnL xs ns).length cy], .bool true]) (by simp only [results, Try.results52]; simp [go_sem, r0, r1]) rfl ⟨_, rfl, HOx.out.mono (by first | exact HB0.out.size | exact HB1.out.size | exact HB2.out.size | exact HB3.out.size | exact HB4.out.size), HBx.out⟩
end Go.Proofs.Ytoblhnfnjagajab
