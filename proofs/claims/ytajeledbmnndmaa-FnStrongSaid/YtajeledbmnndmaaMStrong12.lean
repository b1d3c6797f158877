/- Texts put together: FlipG, FlipT, StC, StD, LexC, TourL, Code, OfBits. -/
import Derived.Test.YtajeledbmnndmaaMStrong11
import Derived.Test.YtajeledbmnndmaaMStrong07
import Derived.Test.YtajeledbmnndmaaMStrong03
import Derived.Test.YtajeledbmnndmaaMStrong10
import Derived.Test.YtajeledbmnndmaaMStrong09
import Derived.Test.YtajeledbmnndmaaMStrong08
import Derived.Test.YtajeledbmnndmaaMStrong01
import Derived.Test.YtajeledbmnndmaaMStrong02
import Derived.Test.YtajeledbmnndmaaMStrong04
namespace Go.Proofs.Ytajeledbmnndmaa
open Go.RowKit Go.Sort
set_option maxRecDepth 100000

noncomputable def flOk (s : Int) (xs : List Int) (a b : Int) : Bool := tourB s xs && (inB a 0 (s - 1) && (inB b 0 (s - 1) && !(a == b)))
noncomputable def flS (s : Int) (xs : List Int) (a b : Int) : Int := if flOk s xs a b = true then s else 0
noncomputable def flL (s : Int) (xs : List Int) (a b : Int) : List Int := if flOk s xs a b = true then flipL xs a.toNat b.toNat else []
theorem fl_no {s : Int} {xs : List Int} {a b : Int} (h : flOk s xs a b = false) : flS s xs a b = 0 ∧ flL s xs a b = [] := by simp [flS, flL, h]
theorem fl_yes {s : Int} {xs : List Int} {a b : Int} (h : flOk s xs a b = true) : flS s xs a b = s ∧ flL s xs a b = flipL xs a.toNat b.toNat := by simp [flS, flL, h]
theorem flL_len (s : Int) (xs : List Int) (a b : Int) : (flL s xs a b).length ≤ 8 := by
  unfold flL
  split
  · rename_i h
    unfold flOk at h
    rw [Bool.and_eq_true] at h
    have := (tourB_true.1 h.1).1
    have := (tourB_true.1 h.1).2.1
    rw [flipL_len]; omega
  · simp
set_option maxHeartbeats 4000000 in
theorem implFlip (s : Int) (sl : Value) (xs : List Int) (a b : Int) (w : World) (h : Rd w sl xs) :
    Calls Try.prog 43 #[.agg #[.int .i64 s, sl], .int .i64 a, .int .i64 b] w fun e w' => ∃ sl', e = .returned (.tuple #[.agg #[.int .i64 (flS s xs a b), sl'], .bool (flOk s xs a b)]) ∧ Own w' w.heap.size sl' (flL s xs a b) ∧ Below w.heap.size w w' := by
  have HR := Lib.hid h
  obtain ⟨A, c, rfl, -, -, -⟩ := h
  rcases q0 : tourB s xs with _ | _
  case false =>
    go_enter Try.func43, Try.ntmps43
    go_wp2_with fail
    have b0 := (below_alloc1 w (.cells #[.int .i64 s, .slice A xs.length c] 28)).alloc (by simp) (.cells #[.int .i64 0, .slice none 0 0] 28)
    have x0 := (TBox.new w s (.slice A xs.length c) 28).below (below_alloc1 _ (.cells #[.int .i64 0, .slice none 0 0] 28))
    have t0 := BoxF.new (w.alloc (.cells #[.int .i64 s, .slice A xs.length c] 28)) 0 (.slice none 0 0) 28
    simp only [World.size_alloc] at t0
    generalize (w.alloc (.cells #[.int .i64 s, .slice A xs.length c] 28)).alloc (.cells #[.int .i64 0, .slice none 0 0] 28) = w0 at *
    have HX0 := Lib.hid x0
    have HB0 := Lib.hid b0
    have HT0 := Lib.hid t0
    clear x0 b0 t0
    have y0_0 := HX0.out.1
    have y1_0 := HX0.out.2
    go_wp2_with fail
    refine (implTourOk s _ xs _ (HR.out.below HB0.out)).mono ?_
    rintro e w1 ⟨rfl, hb⟩
    have HX1 := Lib.hid (HX0.out.below hb)
    have HT1 := Lib.hid (HT0.out.below hb)
    have HB1 := Lib.hid (Below.then HB0.out hb)
    clear hb HX0 HT0 HB0 y0_0 y1_0
    have y0_1 := HX1.out.1
    have y1_1 := HX1.out.2
    rw [q0]
    have v0 := HT1.out.1.1
    have v1 := HT1.out.1.2
    have f0 := HT1.out.2 0
    have f1 := HT1.out.2 1
    have HBx := Lib.hid ((HB1.out.setCell (p := ⟨w.heap.size + 1, 0, none⟩) (by simp) (.int .i64 0)).setCell (p := ⟨w.heap.size + 1, 1, none⟩) (by simp) (.slice none 0 0))
    have R0 : Hid (((w1.setCell ⟨w.heap.size + 1, 0, none⟩ (.int .i64 0)).setCell ⟨w.heap.size + 1, 1, none⟩ (.slice none 0 0)).cell? ⟨w.heap.size + 1, 0, none⟩ = some (.int .i64 0)) := (World.cell?_setCell_other _ _ _ _ (by simp)).trans (World.cell?_setCell_same _ _ _ v0)
    have R1 : Hid (((w1.setCell ⟨w.heap.size + 1, 0, none⟩ (.int .i64 0)).setCell ⟨w.heap.size + 1, 1, none⟩ (.slice none 0 0)).cell? ⟨w.heap.size + 1, 1, none⟩ = some (.slice none 0 0)) := World.cell?_setCell_same _ _ _ ((World.cell?_setCell_other _ _ _ _ (by simp)).trans v1)
    go_wp2
    have r0 := R0.out
    have r1 := R1.out
    have hno : flOk s xs a b = false := by first | (simp [flOk, q0]; done) | (simp [flOk, q1]; done) | (simp [flOk, q2]; done) | (simp [flOk, q3]; done)
    refine bodyPost_ret (v := .tuple #[.agg #[.int .i64 0, .slice none 0 0], .bool false]) (by simp only [results, Try.results43]; simp [go_sem, r0, r1]) rfl ⟨_, by rw [(fl_no hno).1, hno], by rw [(fl_no hno).2]; exact Own.nil_ _ _, HBx.out⟩
  have hp := tourB_true.1 q0
  have hs := hp.1
  have hl := hp.2.1
  rcases q1 : inB a 0 (s - 1) with _ | _
  case false =>
    go_enter Try.func43, Try.ntmps43
    go_wp2_with fail
    have b0 := (below_alloc1 w (.cells #[.int .i64 s, .slice A xs.length c] 28)).alloc (by simp) (.cells #[.int .i64 0, .slice none 0 0] 28)
    have x0 := (TBox.new w s (.slice A xs.length c) 28).below (below_alloc1 _ (.cells #[.int .i64 0, .slice none 0 0] 28))
    have t0 := BoxF.new (w.alloc (.cells #[.int .i64 s, .slice A xs.length c] 28)) 0 (.slice none 0 0) 28
    simp only [World.size_alloc] at t0
    generalize (w.alloc (.cells #[.int .i64 s, .slice A xs.length c] 28)).alloc (.cells #[.int .i64 0, .slice none 0 0] 28) = w0 at *
    have HX0 := Lib.hid x0
    have HB0 := Lib.hid b0
    have HT0 := Lib.hid t0
    clear x0 b0 t0
    have y0_0 := HX0.out.1
    have y1_0 := HX0.out.2
    go_wp2_with fail
    refine (implTourOk s _ xs _ (HR.out.below HB0.out)).mono ?_
    rintro e w1 ⟨rfl, hb⟩
    have HX1 := Lib.hid (HX0.out.below hb)
    have HT1 := Lib.hid (HT0.out.below hb)
    have HB1 := Lib.hid (Below.then HB0.out hb)
    clear hb HX0 HT0 HB0 y0_0 y1_0
    have y0_1 := HX1.out.1
    have y1_1 := HX1.out.2
    rw [q0]
    go_wp2_with fail
    refine (has_any s (.slice A xs.length c) a _ (by omega)).mono ?_
    rintro e w2 ⟨rfl, hb⟩
    have HX2 := Lib.hid (HX1.out.below hb)
    have HT2 := Lib.hid (HT1.out.below hb)
    have HB2 := Lib.hid (Below.then HB1.out hb)
    clear hb HX1 HT1 HB1 y0_1 y1_1
    have y0_2 := HX2.out.1
    have y1_2 := HX2.out.2
    rw [q1]
    have v0 := HT2.out.1.1
    have v1 := HT2.out.1.2
    have f0 := HT2.out.2 0
    have f1 := HT2.out.2 1
    have HBx := Lib.hid ((HB2.out.setCell (p := ⟨w.heap.size + 1, 0, none⟩) (by simp) (.int .i64 0)).setCell (p := ⟨w.heap.size + 1, 1, none⟩) (by simp) (.slice none 0 0))
    have R0 : Hid (((w2.setCell ⟨w.heap.size + 1, 0, none⟩ (.int .i64 0)).setCell ⟨w.heap.size + 1, 1, none⟩ (.slice none 0 0)).cell? ⟨w.heap.size + 1, 0, none⟩ = some (.int .i64 0)) := (World.cell?_setCell_other _ _ _ _ (by simp)).trans (World.cell?_setCell_same _ _ _ v0)
    have R1 : Hid (((w2.setCell ⟨w.heap.size + 1, 0, none⟩ (.int .i64 0)).setCell ⟨w.heap.size + 1, 1, none⟩ (.slice none 0 0)).cell? ⟨w.heap.size + 1, 1, none⟩ = some (.slice none 0 0)) := World.cell?_setCell_same _ _ _ ((World.cell?_setCell_other _ _ _ _ (by simp)).trans v1)
    go_wp2
    have r0 := R0.out
    have r1 := R1.out
    have hno : flOk s xs a b = false := by first | (simp [flOk, q0]; done) | (simp [flOk, q1]; done) | (simp [flOk, q2]; done) | (simp [flOk, q3]; done)
    refine bodyPost_ret (v := .tuple #[.agg #[.int .i64 0, .slice none 0 0], .bool false]) (by simp only [results, Try.results43]; simp [go_sem, r0, r1]) rfl ⟨_, by rw [(fl_no hno).1, hno], by rw [(fl_no hno).2]; exact Own.nil_ _ _, HBx.out⟩
  have ha := inB_true.1 q1
  rcases q2 : inB b 0 (s - 1) with _ | _
  case false =>
    go_enter Try.func43, Try.ntmps43
    go_wp2_with fail
    have b0 := (below_alloc1 w (.cells #[.int .i64 s, .slice A xs.length c] 28)).alloc (by simp) (.cells #[.int .i64 0, .slice none 0 0] 28)
    have x0 := (TBox.new w s (.slice A xs.length c) 28).below (below_alloc1 _ (.cells #[.int .i64 0, .slice none 0 0] 28))
    have t0 := BoxF.new (w.alloc (.cells #[.int .i64 s, .slice A xs.length c] 28)) 0 (.slice none 0 0) 28
    simp only [World.size_alloc] at t0
    generalize (w.alloc (.cells #[.int .i64 s, .slice A xs.length c] 28)).alloc (.cells #[.int .i64 0, .slice none 0 0] 28) = w0 at *
    have HX0 := Lib.hid x0
    have HB0 := Lib.hid b0
    have HT0 := Lib.hid t0
    clear x0 b0 t0
    have y0_0 := HX0.out.1
    have y1_0 := HX0.out.2
    go_wp2_with fail
    refine (implTourOk s _ xs _ (HR.out.below HB0.out)).mono ?_
    rintro e w1 ⟨rfl, hb⟩
    have HX1 := Lib.hid (HX0.out.below hb)
    have HT1 := Lib.hid (HT0.out.below hb)
    have HB1 := Lib.hid (Below.then HB0.out hb)
    clear hb HX0 HT0 HB0 y0_0 y1_0
    have y0_1 := HX1.out.1
    have y1_1 := HX1.out.2
    rw [q0]
    go_wp2_with fail
    refine (has_any s (.slice A xs.length c) a _ (by omega)).mono ?_
    rintro e w2 ⟨rfl, hb⟩
    have HX2 := Lib.hid (HX1.out.below hb)
    have HT2 := Lib.hid (HT1.out.below hb)
    have HB2 := Lib.hid (Below.then HB1.out hb)
    clear hb HX1 HT1 HB1 y0_1 y1_1
    have y0_2 := HX2.out.1
    have y1_2 := HX2.out.2
    rw [q1]
    go_wp2_with fail
    refine (has_any s (.slice A xs.length c) b _ (by omega)).mono ?_
    rintro e w3 ⟨rfl, hb⟩
    have HX3 := Lib.hid (HX2.out.below hb)
    have HT3 := Lib.hid (HT2.out.below hb)
    have HB3 := Lib.hid (Below.then HB2.out hb)
    clear hb HX2 HT2 HB2 y0_2 y1_2
    have y0_3 := HX3.out.1
    have y1_3 := HX3.out.2
    rw [q2]
    have v0 := HT3.out.1.1
    have v1 := HT3.out.1.2
    have f0 := HT3.out.2 0
    have f1 := HT3.out.2 1
    have HBx := Lib.hid ((HB3.out.setCell (p := ⟨w.heap.size + 1, 0, none⟩) (by simp) (.int .i64 0)).setCell (p := ⟨w.heap.size + 1, 1, none⟩) (by simp) (.slice none 0 0))
    have R0 : Hid (((w3.setCell ⟨w.heap.size + 1, 0, none⟩ (.int .i64 0)).setCell ⟨w.heap.size + 1, 1, none⟩ (.slice none 0 0)).cell? ⟨w.heap.size + 1, 0, none⟩ = some (.int .i64 0)) := (World.cell?_setCell_other _ _ _ _ (by simp)).trans (World.cell?_setCell_same _ _ _ v0)
    have R1 : Hid (((w3.setCell ⟨w.heap.size + 1, 0, none⟩ (.int .i64 0)).setCell ⟨w.heap.size + 1, 1, none⟩ (.slice none 0 0)).cell? ⟨w.heap.size + 1, 1, none⟩ = some (.slice none 0 0)) := World.cell?_setCell_same _ _ _ ((World.cell?_setCell_other _ _ _ _ (by simp)).trans v1)
    go_wp2
    have r0 := R0.out
    have r1 := R1.out
    have hno : flOk s xs a b = false := by first | (simp [flOk, q0]; done) | (simp [flOk, q1]; done) | (simp [flOk, q2]; done) | (simp [flOk, q3]; done)
    refine bodyPost_ret (v := .tuple #[.agg #[.int .i64 0, .slice none 0 0], .bool false]) (by simp only [results, Try.results43]; simp [go_sem, r0, r1]) rfl ⟨_, by rw [(fl_no hno).1, hno], by rw [(fl_no hno).2]; exact Own.nil_ _ _, HBx.out⟩
  have hb := inB_true.1 q2
  rcases q3 : (a == b) with _ | _
  case true =>
    go_enter Try.func43, Try.ntmps43
    go_wp2_with fail
    have b0 := (below_alloc1 w (.cells #[.int .i64 s, .slice A xs.length c] 28)).alloc (by simp) (.cells #[.int .i64 0, .slice none 0 0] 28)
    have x0 := (TBox.new w s (.slice A xs.length c) 28).below (below_alloc1 _ (.cells #[.int .i64 0, .slice none 0 0] 28))
    have t0 := BoxF.new (w.alloc (.cells #[.int .i64 s, .slice A xs.length c] 28)) 0 (.slice none 0 0) 28
    simp only [World.size_alloc] at t0
    generalize (w.alloc (.cells #[.int .i64 s, .slice A xs.length c] 28)).alloc (.cells #[.int .i64 0, .slice none 0 0] 28) = w0 at *
    have HX0 := Lib.hid x0
    have HB0 := Lib.hid b0
    have HT0 := Lib.hid t0
    clear x0 b0 t0
    have y0_0 := HX0.out.1
    have y1_0 := HX0.out.2
    go_wp2_with fail
    refine (implTourOk s _ xs _ (HR.out.below HB0.out)).mono ?_
    rintro e w1 ⟨rfl, hb⟩
    have HX1 := Lib.hid (HX0.out.below hb)
    have HT1 := Lib.hid (HT0.out.below hb)
    have HB1 := Lib.hid (Below.then HB0.out hb)
    clear hb HX0 HT0 HB0 y0_0 y1_0
    have y0_1 := HX1.out.1
    have y1_1 := HX1.out.2
    rw [q0]
    go_wp2_with fail
    refine (has_any s (.slice A xs.length c) a _ (by omega)).mono ?_
    rintro e w2 ⟨rfl, hb⟩
    have HX2 := Lib.hid (HX1.out.below hb)
    have HT2 := Lib.hid (HT1.out.below hb)
    have HB2 := Lib.hid (Below.then HB1.out hb)
    clear hb HX1 HT1 HB1 y0_1 y1_1
    have y0_2 := HX2.out.1
    have y1_2 := HX2.out.2
    rw [q1]
    go_wp2_with fail
    refine (has_any s (.slice A xs.length c) b _ (by omega)).mono ?_
    rintro e w3 ⟨rfl, hb⟩
    have HX3 := Lib.hid (HX2.out.below hb)
    have HT3 := Lib.hid (HT2.out.below hb)
    have HB3 := Lib.hid (Below.then HB2.out hb)
    clear hb HX2 HT2 HB2 y0_2 y1_2
    have y0_3 := HX3.out.1
    have y1_3 := HX3.out.2
    rw [q2]
    have v0 := HT3.out.1.1
    have v1 := HT3.out.1.2
    have f0 := HT3.out.2 0
    have f1 := HT3.out.2 1
    have HBx := Lib.hid ((HB3.out.setCell (p := ⟨w.heap.size + 1, 0, none⟩) (by simp) (.int .i64 0)).setCell (p := ⟨w.heap.size + 1, 1, none⟩) (by simp) (.slice none 0 0))
    have R0 : Hid (((w3.setCell ⟨w.heap.size + 1, 0, none⟩ (.int .i64 0)).setCell ⟨w.heap.size + 1, 1, none⟩ (.slice none 0 0)).cell? ⟨w.heap.size + 1, 0, none⟩ = some (.int .i64 0)) := (World.cell?_setCell_other _ _ _ _ (by simp)).trans (World.cell?_setCell_same _ _ _ v0)
    have R1 : Hid (((w3.setCell ⟨w.heap.size + 1, 0, none⟩ (.int .i64 0)).setCell ⟨w.heap.size + 1, 1, none⟩ (.slice none 0 0)).cell? ⟨w.heap.size + 1, 1, none⟩ = some (.slice none 0 0)) := World.cell?_setCell_same _ _ _ ((World.cell?_setCell_other _ _ _ _ (by simp)).trans v1)
    go_wp2
    have r0 := R0.out
    have r1 := R1.out
    have hno : flOk s xs a b = false := by first | (simp [flOk, q0]; done) | (simp [flOk, q1]; done) | (simp [flOk, q2]; done) | (simp [flOk, q3]; done)
    refine bodyPost_ret (v := .tuple #[.agg #[.int .i64 0, .slice none 0 0], .bool false]) (by simp only [results, Try.results43]; simp [go_sem, r0, r1]) rfl ⟨_, by rw [(fl_no hno).1, hno], by rw [(fl_no hno).2]; exact Own.nil_ _ _, HBx.out⟩
  have hyes : flOk s xs a b = true := by simp [flOk, q0, q1, q2, q3]
  have he := fl_yes hyes
  rw [he.1, he.2, hyes]
  go_enter Try.func43, Try.ntmps43
  go_wp2_with fail
  have b0 := (below_alloc1 w (.cells #[.int .i64 s, .slice A xs.length c] 28)).alloc (by simp) (.cells #[.int .i64 0, .slice none 0 0] 28)
  have x0 := (TBox.new w s (.slice A xs.length c) 28).below (below_alloc1 _ (.cells #[.int .i64 0, .slice none 0 0] 28))
  have t0 := BoxF.new (w.alloc (.cells #[.int .i64 s, .slice A xs.length c] 28)) 0 (.slice none 0 0) 28
  simp only [World.size_alloc] at t0
  generalize (w.alloc (.cells #[.int .i64 s, .slice A xs.length c] 28)).alloc (.cells #[.int .i64 0, .slice none 0 0] 28) = w0 at *
  have HX0 := Lib.hid x0
  have HB0 := Lib.hid b0
  have HT0 := Lib.hid t0
  clear x0 b0 t0
  have y0_0 := HX0.out.1
  have y1_0 := HX0.out.2
  go_wp2_with fail
  refine (implTourOk s _ xs _ (HR.out.below HB0.out)).mono ?_
  rintro e w1 ⟨rfl, hb⟩
  have HX1 := Lib.hid (HX0.out.below hb)
  have HT1 := Lib.hid (HT0.out.below hb)
  have HB1 := Lib.hid (Below.then HB0.out hb)
  clear hb HX0 HT0 HB0 y0_0 y1_0
  have y0_1 := HX1.out.1
  have y1_1 := HX1.out.2
  rw [q0]
  go_wp2_with fail
  refine (has_any s (.slice A xs.length c) a _ (by omega)).mono ?_
  rintro e w2 ⟨rfl, hb⟩
  have HX2 := Lib.hid (HX1.out.below hb)
  have HT2 := Lib.hid (HT1.out.below hb)
  have HB2 := Lib.hid (Below.then HB1.out hb)
  clear hb HX1 HT1 HB1 y0_1 y1_1
  have y0_2 := HX2.out.1
  have y1_2 := HX2.out.2
  rw [q1]
  go_wp2_with fail
  refine (has_any s (.slice A xs.length c) b _ (by omega)).mono ?_
  rintro e w3 ⟨rfl, hb⟩
  have HX3 := Lib.hid (HX2.out.below hb)
  have HT3 := Lib.hid (HT2.out.below hb)
  have HB3 := Lib.hid (Below.then HB2.out hb)
  clear hb HX2 HT2 HB2 y0_2 y1_2
  have y0_3 := HX3.out.1
  have y1_3 := HX3.out.2
  rw [q2]
  obtain ⟨m, rfl⟩ := Int.eq_ofNat_of_zero_le ha.1
  obtain ⟨k, rfl⟩ := Int.eq_ofNat_of_zero_le hb.1
  go_wp2_with fail
  refine (flipped_any s _ xs m k _ (HR.out.below HB3.out) (by omega) (by omega) (by omega)).mono ?_
  rintro e w4 ⟨sl', rfl, ho, hb4⟩
  obtain ⟨Y, cy, rfl, -, -, -⟩ := ho.form
  have HT4 := HT3.out.below hb4
  have HB4 := Below.then HB3.out hb4
  have v0 := HT4.1.1
  have v1 := HT4.1.2
  have f0 := HT4.2 0
  have f1 := HT4.2 1
  have hgt := (HT4).gt
  have HOx := Lib.hid ((ho.kept (setCell_grown _ ⟨w.heap.size + 1, 0, none⟩ (.int .i64 s)) (own_ne (fun k hk => (ho.lt k hk).1) (by first | exact (HT1.out).gt | exact (HT0.out).gt | exact (HT2.out).gt | exact (HT3.out).gt | exact (HT4.out).gt | (simp; omega)))).kept (setCell_grown _ ⟨w.heap.size + 1, 1, none⟩ (.slice Y (flipL xs m k).length cy)) (own_ne (fun k hk => (ho.lt k hk).1) (by first | exact (HT1.out).gt | exact (HT0.out).gt | exact (HT2.out).gt | exact (HT3.out).gt | exact (HT4.out).gt | (simp; omega))))
  have HBx := Lib.hid ((HB4.setCell (p := ⟨w.heap.size + 1, 0, none⟩) (by simp) (.int .i64 s)).setCell (p := ⟨w.heap.size + 1, 1, none⟩) (by simp) (.slice Y (flipL xs m k).length cy))
  have R0 : Hid (((w4.setCell ⟨w.heap.size + 1, 0, none⟩ (.int .i64 s)).setCell ⟨w.heap.size + 1, 1, none⟩ (.slice Y (flipL xs m k).length cy)).cell? ⟨w.heap.size + 1, 0, none⟩ = some (.int .i64 s)) := (World.cell?_setCell_other _ _ _ _ (by simp)).trans (World.cell?_setCell_same _ _ _ v0)
  have R1 : Hid (((w4.setCell ⟨w.heap.size + 1, 0, none⟩ (.int .i64 s)).setCell ⟨w.heap.size + 1, 1, none⟩ (.slice Y (flipL xs m k).length cy)).cell? ⟨w.heap.size + 1, 1, none⟩ = some (.slice Y (flipL xs m k).length cy)) := World.cell?_setCell_same _ _ _ ((World.cell?_setCell_other _ _ _ _ (by simp)).trans v1)
  go_wp2
  have r0 := R0.out
  have r1 := R1.out
  refine bodyPost_ret (v := .tuple #[.agg #[.int .i64 s, .slice Y (flipL xs m k).length cy], .bool true]) (by simp only [results, Try.results43]; simp [go_sem, r0, r1]) rfl ⟨_, rfl, HOx.out.mono (by first | exact HB0.out.size | exact HB1.out.size | exact HB2.out.size | exact HB3.out.size | exact HB4.out.size), HBx.out⟩
end Go.Proofs.Ytajeledbmnndmaa

namespace Go.Proofs.Ytajeledbmnndmaa
open Go.RowKit Go.Sort
set_option maxRecDepth 100000
theorem xor_nat {S b : Nat} (hS : S < 256) (hb : b < 8) : xorI (S : Int) b = ((S ^^^ 2 ^ b : Nat) : Int) := by
  unfold xorI
  rw [shl_nat b (by omega)]
  have : 2 ^ b < 256 := pow_lt8 hb
  exact i64_xor_nat S (2 ^ b) (by omega) (by omega)
theorem flip_at {s : Int} {xs : List Int} (hp : tourP s xs) {a b : Nat} (ha : a < xs.length) (hb : b < xs.length) (hab : a ≠ b) (x : Nat) (hx : x < xs.length) :
    ∃ S : Nat, (flipL xs a b).getD x 0 = (S : Int) ∧ S < 2 ^ xs.length ∧ ∀ y, S.testBit y = ((bt xs x y) ^^ ((x == a && y == b) || (x == b && y == a))) := by
  have h8 : xs.length ≤ 8 := by have h1 := hp.1; have h2 := hp.2.1; omega
  have hw := fun z (hz : z < xs.length) => tour_wins hp hz
  have hsn : s.toNat = xs.length := by have := hp.2.1; omega
  have pw : ∀ c, c < xs.length → 2 ^ c < 2 ^ xs.length := fun c hc => Nat.pow_lt_pow_right (by decide) hc
  have e1 : (xs.set a (xorI (xs.getD a 0) b)).getD b 0 = xs.getD b 0 := getD_set_other _ hab
  unfold flipL
  rw [e1]
  have wa := hw a ha
  have wb := hw b hb
  rw [hsn] at wa wb
  by_cases h1 : x = b
  · subst h1
    rw [getD_set_same _ (by simp [hx]), wb.1, xor_nat wb.2.2 (by omega)]
    refine ⟨_, rfl, Nat.xor_lt_two_pow wb.2.1 (pw a ha), fun y => ?_⟩
    rw [Nat.testBit_xor, Nat.testBit_two_pow]
    have q : (x == a) = false := by simp; omega
    by_cases e : a = y
    · subst e; simp [q, bt]
    · have : (y == a) = false := by simp; omega
      simp [q, bt, e, this]
  · rw [getD_set_other _ (Ne.symm h1)]
    by_cases h2 : x = a
    · subst h2
      rw [getD_set_same _ hx, wa.1, xor_nat wa.2.2 (by omega)]
      refine ⟨_, rfl, Nat.xor_lt_two_pow wa.2.1 (pw b hb), fun y => ?_⟩
      rw [Nat.testBit_xor, Nat.testBit_two_pow]
      have q : (x == b) = false := by simp; omega
      by_cases e : b = y
      · subst e; simp [q, bt]
      · have : (y == b) = false := by simp; omega
        simp [q, bt, e, this]
    · rw [getD_set_other _ (Ne.symm h2)]
      have wx := hw x hx
      rw [hsn] at wx
      refine ⟨_, wx.1, wx.2.1, fun y => ?_⟩
      have q1 : (x == a) = false := by simp; omega
      have q2 : (x == b) = false := by simp; omega
      simp [q1, q2, bt]
theorem flip_tour {s : Int} {xs : List Int} (hp : tourP s xs) {a b : Nat} (ha : a < xs.length) (hb : b < xs.length) (hab : a ≠ b) : tourP s (flipL xs a b) := by
  have hl := flipL_len xs a b
  have ht := tour_bits hp
  have hbt : ∀ x y, x < xs.length → bt (flipL xs a b) x y = ((bt xs x y) ^^ ((x == a && y == b) || (x == b && y == a))) := fun x y hx => by
    obtain ⟨S, e, -, h⟩ := flip_at hp ha hb hab x hx
    show (winsN (flipL xs a b) x).testBit y = _
    unfold winsN
    rw [e, Int.toNat_natCast]
    exact h y
  refine tour_of_bits hp.1 (by rw [hl]; exact hp.2.1) (fun i hi => ?_) (fun x hx => ?_) (fun x y hx hy hxy => ?_)
  · rw [hl] at hi ⊢
    obtain ⟨S, e, h, -⟩ := flip_at hp ha hb hab i hi
    exact ⟨S, e, h⟩
  · rw [hl] at hx
    rw [hbt x x hx, ht.2.1 x hx]
    have q : ((x == a && x == b) || (x == b && x == a)) = false := by
      rcases e : ((x == a && x == b) || (x == b && x == a)) with _ | _
      · rfl
      · simp at e; omega
    rw [q]; rfl
  · rw [hl] at hx hy
    rw [hbt x y hx, hbt y x hy, ht.2.2 x y hx hy hxy]
    have q : ((y == a && x == b) || (y == b && x == a)) = ((x == a && y == b) || (x == b && y == a)) := by
      rw [Bool.or_comm, Bool.and_comm (y == b), Bool.and_comm (y == a)]
    rw [q]
    cases bt xs y x <;> cases ((x == a && y == b) || (x == b && y == a)) <;> rfl
end Go.Proofs.Ytajeledbmnndmaa

namespace Go.Proofs.Ytajeledbmnndmaa
open Go.RowKit Go.Sort
set_option maxRecDepth 100000
noncomputable def strB (xs : List Int) (n : Nat) : Bool := decide ((partsN xs (2 ^ n - 1)).length = 1)
theorem strB_iff {n : Nat} {xs : List Int} (hp : tourP n xs) : strB xs n = true ↔ strP xs n := by
  unfold strB; rw [decide_eq_true_eq, strong_parts hp]
theorem partsF_len (xs : List Int) (n : Nat) : ∀ f S, (partsF xs n f S).length ≤ f := by
  intro f
  induction f with
  | zero => intro S; simp [partsF]
  | succ f ih =>
    intro S
    rw [partsF]
    split
    · simp
    · have := ih (less S (topF xs n S)); simp; omega
theorem partsN_len {n : Nat} {xs : List Int} (hp : tourP n xs) : (partsN xs (2 ^ n - 1)).length ≤ 256 := by
  have h := partsF_len xs xs.length (2 ^ n - 1 + 1) (2 ^ n - 1)
  have h2 : 2 ^ n ≤ 256 := pow_le (by have := hp.1; omega)
  have := Nat.one_le_two_pow (n := n)
  unfold partsN
  omega
section
variable {n : Nat} {xs : List Int} {sl : Value} {w : World}
theorem cPartsM (hp : tourP n xs) (h : Rd w sl xs) : Calls Try.prog 88 #[.agg #[.int .i64 n, sl]] w fun e w' => ∃ A c, e = .returned (.slice A (partsN xs (2 ^ n - 1)).length c) ∧ c ≤ maxLen ∧ Own w' w.heap.size (.slice A (partsN xs (2 ^ n - 1)).length c) (nI (partsN xs (2 ^ n - 1))) ∧ Below w.heap.size w w' :=
  (parts_any n sl xs hp w h).mono fun e w' ⟨v, h1, h2, h3⟩ => by
    obtain ⟨A, c, rfl, hc, -⟩ := h2.form
    rw [tour_len hp, nI_len] at h1
    rw [tour_len hp, nI_len] at h2
    exact ⟨A, c, h1, hc, h2, h3⟩
set_option maxHeartbeats 1000000 in
theorem isStrong_any (hp : tourP n xs) (h : Rd w sl xs) : Calls Try.prog 93 #[.agg #[.int .i64 n, sl]] w fun e w' => e = .returned (.bool (strB xs n)) ∧ Below w.heap.size w w' := by
  have HR := Lib.hid h
  obtain ⟨A, cA, rfl, -, -, -⟩ := h
  rw [tour_len hp] at *
  have HP := Lib.hid hp
  clear hp
  go_enter Try.func93, Try.ntmps93
  go_wp2_with fail
  have b0 := below_alloc1 w (.cells #[.int .i64 n, .slice A n cA] 28)
  have x0 := TBox.new w n (.slice A n cA) 28
  generalize w.alloc (.cells #[.int .i64 n, .slice A n cA] 28) = w0 at *
  have HX0 := Lib.hid x0
  have HB0 := Lib.hid b0
  clear x0 b0
  have y0_0 := HX0.out.1
  have y1_0 := HX0.out.2
  go_wp2_with fail
  refine (cPartsM HP.out (HR.out.below HB0.out)).mono ?_
  rintro e w1 ⟨B, c, rfl, -, -, hb⟩
  have HB1 := Lib.hid (Below.then HB0.out hb)
  have HE : Hid (strB xs n = decide ((partsN xs (2 ^ n - 1)).length = 1)) := Lib.hid rfl
  generalize (partsN xs (2 ^ n - 1)).length = m at *
  clear hb
  go_wp2
  go_ret
  exact ⟨ret_bool (by rw [HE.out, Bool.eq_iff_iff]; simp; omega), HB1.out⟩
set_option maxHeartbeats 1000000 in
theorem cIsStrong (hp : tourP n xs) (h : Rd w sl xs) : Calls Try.prog 37 #[.agg #[.int .i64 n, sl]] w fun e w' => e = .returned (.bool (strB xs n)) ∧ Below w.heap.size w w' := by
  have HR := Lib.hid h
  obtain ⟨A, cA, rfl, -, -, -⟩ := h
  rw [tour_len hp] at *
  have HP := Lib.hid hp
  clear hp
  go_enter Try.func37, Try.ntmps37
  go_wp2_with fail
  have b0 := below_alloc1 w (.cells #[.int .i64 n, .slice A n cA] 28)
  have x0 := TBox.new w n (.slice A n cA) 28
  generalize w.alloc (.cells #[.int .i64 n, .slice A n cA] 28) = w0 at *
  have HX0 := Lib.hid x0
  have HB0 := Lib.hid b0
  clear x0 b0
  have y0_0 := HX0.out.1
  have y1_0 := HX0.out.2
  go_wp2_with fail
  refine (implTourOk n _ xs _ (HR.out.below HB0.out)).mono ?_
  rintro e w1 ⟨rfl, hb⟩
  rw [tourB_true.2 HP.out]
  have HB1 := Lib.hid (Below.then HB0.out hb)
  have HX1 := Lib.hid (HX0.out.below hb)
  clear hb y0_0 y1_0 HX0 HB0
  have y0_1 := HX1.out.1
  have y1_1 := HX1.out.2
  go_wp2_with fail
  refine (isStrong_any HP.out (HR.out.below HB1.out)).mono ?_
  rintro e w2 ⟨rfl, hb⟩
  have HB2 := Lib.hid (Below.then HB1.out hb)
  clear hb
  go_wp2
  go_ret
  exact ⟨rfl, HB2.out⟩
set_option maxHeartbeats 1000000 in
theorem cParts (hp : tourP n xs) (h : Rd w sl xs) : Calls Try.prog 33 #[.agg #[.int .i64 n, sl]] w fun e w' => ∃ A c, e = .returned (.slice A (partsN xs (2 ^ n - 1)).length c) ∧ c ≤ maxLen ∧ Own w' w.heap.size (.slice A (partsN xs (2 ^ n - 1)).length c) (nI (partsN xs (2 ^ n - 1))) ∧ Below w.heap.size w w' := by
  have HR := Lib.hid h
  obtain ⟨A, cA, rfl, -, -, -⟩ := h
  rw [tour_len hp] at *
  have HP := Lib.hid hp
  clear hp
  go_enter Try.func33, Try.ntmps33
  go_wp2_with fail
  have b0 := below_alloc1 w (.cells #[.int .i64 n, .slice A n cA] 28)
  have x0 := TBox.new w n (.slice A n cA) 28
  generalize w.alloc (.cells #[.int .i64 n, .slice A n cA] 28) = w0 at *
  have HX0 := Lib.hid x0
  have HB0 := Lib.hid b0
  clear x0 b0
  have y0_0 := HX0.out.1
  have y1_0 := HX0.out.2
  go_wp2_with fail
  refine (implTourOk n _ xs _ (HR.out.below HB0.out)).mono ?_
  rintro e w1 ⟨rfl, hb⟩
  rw [tourB_true.2 HP.out]
  have HB1 := Lib.hid (Below.then HB0.out hb)
  have HX1 := Lib.hid (HX0.out.below hb)
  clear hb y0_0 y1_0 HX0 HB0
  have y0_1 := HX1.out.1
  have y1_1 := HX1.out.2
  go_wp2_with fail
  refine (cPartsM HP.out (HR.out.below HB1.out)).mono ?_
  rintro e w2 ⟨B, c, rfl, hc, ho, hb⟩
  have HB2 := Lib.hid (Below.then HB1.out hb)
  have HO2 := Lib.hid (ho.mono HB1.out.size)
  have HC := Lib.hid hc
  clear hb ho hc
  go_wp2
  go_ret
  exact ⟨B, c, rfl, HC.out, HO2.out, HB2.out⟩
/-- the games whose reversal makes the tour weak -/
def wkP (n : Nat) (xs : List Int) (r : List Int) : Prop := ∃ a b : Nat, r = [(a : Int), (b : Int)] ∧ a < n ∧ b < n ∧ bt xs a b = true ∧ strB (flipL xs a b) n = false
theorem cFlipped (hp : tourP n xs) (h : Rd w sl xs) (a b : Nat) (ha : a < n) (hb : b < n) : Calls Try.prog 98 #[.agg #[.int .i64 n, sl], .int .i64 a, .int .i64 b] w fun e w' => ∃ A c, e = .returned (.agg #[.int .i64 n, .slice A n c]) ∧ Own w' w.heap.size (.slice A n c) (flipL xs a b) ∧ Below w.heap.size w w' :=
  (flipped_any n sl xs a b w h (by rw [tour_len hp]; have := hp.1; omega) (by rw [tour_len hp]; exact ha) (by rw [tour_len hp]; exact hb)).mono fun e w' ⟨v, h1, h2, h3⟩ => by
    obtain ⟨A, c, rfl, -⟩ := h2.form
    rw [flipL_len, tour_len hp] at h1 h2
    exact ⟨A, c, h1, h2, h3⟩
theorem flip_tourN (hp : tourP n xs) {a b : Nat} (ha : a < n) (hb : b < n) (hab : a ≠ b) : tourP n (flipL xs a b) := flip_tour hp (by rw [tour_len hp]; exact ha) (by rw [tour_len hp]; exact hb) hab
theorem cBeats (hp : tourP n xs) (h : Rd w sl xs) (a b : Nat) (ha : a < n) (hb : b < n) : Calls Try.prog 92 #[.agg #[.int .i64 n, sl], .int .i64 a, .int .i64 b] w fun e w' => e = .returned (.bool (bt xs a b)) ∧ Below w.heap.size w w' := by
  have := beats_any n sl xs a b w h (by omega) (by rw [tour_len hp]; omega) (by omega) (by have := hp.1; omega)
  obtain ⟨S, e, -⟩ := (tour_bits hp).1 a (by rw [tour_len hp]; exact ha)
  rwa [Int.toNat_natCast, Int.toNat_natCast, bitI_bt e] at this
set_option maxHeartbeats 4000000 in
theorem cWeakest (hp : tourP n xs) (h : Rd w sl xs) : Calls Try.prog 42 #[.agg #[.int .i64 n, sl]] w fun e w' => ∃ v' rows, e = .returned v' ∧ OwnRows w' w.heap.size v' rows ∧ rows.length ≤ 64 ∧ (∀ r ∈ rows, wkP n xs r) ∧ Below w.heap.size w w' := by
  have HR := Lib.hid h
  obtain ⟨A, cA, rfl, -, -, -⟩ := h
  rw [tour_len hp] at *
  have HP := Lib.hid hp
  have h8 : n ≤ 8 := by have := hp.1; omega
  clear hp
  go_enter Try.func42, Try.ntmps42
  go_wp2_with fail
  have b0 := below_alloc1 w (.cells #[.int .i64 n, .slice A n cA] 28)
  have x0 := TBox.new w n (.slice A n cA) 28
  generalize w.alloc (.cells #[.int .i64 n, .slice A n cA] 28) = w0 at *
  have HX0 := Lib.hid x0
  have HB0 := Lib.hid b0
  clear x0 b0
  have y0_0 := HX0.out.1
  have y1_0 := HX0.out.2
  go_wp2_with fail
  refine (cIsStrong HP.out (HR.out.below HB0.out)).mono ?_
  rintro e w1 ⟨rfl, hb⟩
  have HB1 := Lib.hid (Below.then HB0.out hb)
  have HX1 := Lib.hid (HX0.out.below hb)
  clear hb y0_0 y1_0 HX0 HB0
  have y0_1 := HX1.out.1
  have y1_1 := HX1.out.2
  rcases qs : strB xs n with _ | _
  · go_wp2
    go_ret
    exact ⟨_, [], rfl, OwnRows.nil_ _ _, by simp, (fun r h => by cases h), HB1.out⟩
  clear qs
  go_wp2
  clear y0_1 y1_1
  go_loopw [3, 11] (fun t3 t11 wr => ∃ (a : Nat) (v : Value) (rows : List (List Int)), a ≤ n ∧ t11 = .int .i64 a ∧ v = t3 ∧ Hid (OwnRows wr (w.heap.size + 1) v rows) ∧ rows.length ≤ 8 * a ∧ Hid (∀ r ∈ rows, wkP n xs r) ∧ Hid (TBox wr w.heap.size n (.slice A n cA)) ∧ Hid (Below w.heap.size w wr)) (fun _ t11 _ => n - (intOf t11).toNat)
  case atStart => exact ⟨0, _, [], by omega, rfl, rfl, Lib.hid (OwnRows.nil_ _ _), by simp, Lib.hid (fun r h => by cases h), HX1, HB1⟩
  case round =>
    obtain ⟨wa, rfl⟩ : ∃ x, x = wr := ⟨_, rfl⟩
    obtain ⟨a, v, rows, ha, rfl, rfl, HO, hl, HW, HX, HB⟩ := hrel
    clear HX1 HB1
    by_cases hlta : a < n
    · as_aux_lemma =>
      have y0 := HX.out.1
      go_wp2
      clear y0
      go_loopw [3, 16] (fun t3 t16 wr => ∃ (b : Nat) (v : Value) (rows : List (List Int)), b ≤ n ∧ t16 = .int .i64 b ∧ v = t3 ∧ Hid (OwnRows wr (w.heap.size + 1) v rows) ∧ rows.length ≤ 8 * a + b ∧ Hid (∀ r ∈ rows, wkP n xs r) ∧ Hid (TBox wr w.heap.size n (.slice A n cA)) ∧ Hid (Below w.heap.size w wr)) (fun _ t16 _ => n - (intOf t16).toNat)
      case atStart => exact ⟨0, _, rows, by omega, rfl, rfl, HO, by omega, HW, HX, HB⟩
      case round =>
        obtain ⟨wb, rfl⟩ : ∃ x, x = wr := ⟨_, rfl⟩
        obtain ⟨b, v, rows, hb, rfl, rfl, HO, hl, HW, HX, HB⟩ := hrel
        by_cases hltb : b < n
        · as_aux_lemma =>
          have y0 := HX.out.1
          have y1 := HX.out.2
          go_wp2_with fail
          refine (cBeats HP.out (HR.out.below HB.out) a b hlta hltb).mono ?_
          rintro e w2 ⟨rfl, hb2⟩
          have HO2 := Lib.hid (HO.out.below hb2)
          have HX2 := Lib.hid (HX.out.below hb2)
          have HB2 := Lib.hid (Below.then HB.out hb2)
          clear hb2 HO HX HB y0 y1
          rcases qb : bt xs a b with _ | _
          · as_aux_lemma =>
            go_wp2
            go_roundw
            case rel => exact ⟨b + 1, _, rows, by omega, by go_num, rfl, HO2, by omega, HW, HX2, HB2⟩
            case measure => simp [intOf]; omega
          · as_aux_lemma =>
            have HNE := Lib.hid (bt_asym HP.out hlta hltb qb).2
            have y0 := HX2.out.1
            have y1 := HX2.out.2
            go_wp2_with fail
            refine (cFlipped HP.out (HR.out.below HB2.out) a b hlta hltb).mono ?_
            rintro e w3 ⟨FA, fc, rfl, hof, hb3⟩
            have HF3 := Lib.hid hof.rd
            have HO3 := Lib.hid (HO2.out.below hb3)
            have HX3 := Lib.hid (HX2.out.below hb3)
            have HB3 := Lib.hid (Below.then HB2.out hb3)
            clear hb3 hof HO2 HX2 HB2 y0 y1
            go_wp2_with fail
            refine (isStrong_any (flip_tourN HP.out hlta hltb HNE.out) HF3.out).mono ?_
            rintro e w4 ⟨rfl, hb4⟩
            have HO4 := Lib.hid (HO3.out.below hb4)
            have HX4 := Lib.hid (HX3.out.below hb4)
            have HB4 := Lib.hid (Below.then HB3.out hb4)
            clear hb4 HF3 HO3 HX3 HB3
            rcases qf : strB (flipL xs a b) n with _ | _
            · as_aux_lemma =>
              have HWK := Lib.hid (show wkP n xs [(a : Int), (b : Int)] from ⟨a, b, rfl, hlta, hltb, qb, qf⟩)
              clear qb qf
              have hr := Own.lit w4 w4.heap.size [(a : Int), (b : Int)] (Nat.le_refl _) (by simp)
              have ba := below_alloc1 w4 (.cells #[.int .i64 a, .int .i64 b] 3)
              have HOr := Lib.hid (HO4.out.below ba)
              have HRr := Lib.hid hr
              have hlen : rows.length ≤ 1048576 := by omega
              have hsz : w.heap.size + 1 ≤ w4.heap.size := World.block_lt_of_cell? _ _ HX4.out.1
              have hsz2 : w.heap.size + 1 ≤ (w4.alloc (.cells #[.int .i64 a, .int .i64 b] 3)).heap.size := Nat.le_trans hsz ba.size
              have hxk : some w.heap.size ≠ Value.ownBlock v := fun e => by
                have h1 := (HOr.out.lt _ e.symm).1
                omega
              have HXr := Lib.hid (HX4.out.below ba)
              have HBr := Lib.hid (Below.then HB4.out ba)
              have hO4 := HO4.out
              have hRr := HRr.out
              clear hr ba
              go_wp2_with (at_builtin; refine wp_append1V (w4.alloc (.cells #[.int .i64 a, .int .i64 b] 3)) rfl (.tmp 31) (.tmp 35) rfl (w.heap.size + 1) _ rows _ [(a : Int), (b : Int)] w4 rfl hO4 (below_alloc1 w4 _) hRr hsz (by simp [Act.eval]) hlen ?_; intro v' w7 ho7 hg7; have HO7 := Lib.hid ho7; have HX7 := Lib.hid (HXr.out.kept hg7 hxk); have HB7 := Lib.hid (below_appendV HBr.out hg7 HOr.out (Nat.le_succ _) hsz2); clear ho7 hg7)
              go_roundw
              case rel => exact ⟨b + 1, _, rows ++ [[(a : Int), (b : Int)]], by omega, by go_num, rfl, HO7, by simp; omega, Lib.hid (fun r hr => by
                rcases List.mem_append.1 hr with h | h
                · exact HW.out r h
                · simp at h; subst h; exact HWK.out), HX7, HB7⟩
              case measure => simp [intOf]; omega
            · as_aux_lemma =>
              go_wp2
              go_roundw
              case rel => exact ⟨b + 1, _, rows, by omega, by go_num, rfl, HO4, by omega, HW, HX4, HB4⟩
              case measure => simp [intOf]; omega
        · as_aux_lemma =>
          obtain rfl : b = n := by omega
          go_wp2
          go_roundw
          case rel => exact ⟨a + 1, _, rows, by omega, by go_num, rfl, HO, by omega, HW, HX, HB⟩
          case measure => simp [intOf]; omega
    · as_aux_lemma =>
      obtain rfl : a = n := by omega
      go_wp2
      go_ret
      exact ⟨_, rows, rfl, HO.out.mono (Nat.le_succ _), by omega, HW.out, HB.out⟩
end
end Go.Proofs.Ytajeledbmnndmaa

namespace Go.Proofs.Ytajeledbmnndmaa
open Go.RowKit Go.Sort
set_option maxRecDepth 100000
section
variable {n : Nat} {xs : List Int} {sl : Value} {w : World}
theorem cReach (hp : tourP n xs) (h : Rd w sl xs) (a : Nat) (ha : a < n) : Calls Try.prog 34 #[.agg #[.int .i64 n, sl], .int .i64 a] w fun e w' => e = .returned (.int .i64 (reachN xs a : Nat)) ∧ Below w.heap.size w w' := by
  have := implReachOf n sl xs a w h
  rwa [show reachI n xs a = (reachN xs a : Nat) by unfold reachI; rw [tourB_true.2 hp, show inB (a : Int) 0 ((n : Int) - 1) = true from inB_true.2 ⟨by omega, by omega⟩, Int.toNat_natCast]; simp] at this
theorem cPartOf (h : Rd w sl xs) (a i : Nat) (hi : partI n xs a = i) : Calls Try.prog 35 #[.agg #[.int .i64 n, sl], .int .i64 a] w fun e w' => e = .returned (.int .i64 i) ∧ Below w.heap.size w w' := by
  have := implPartOf n sl xs a w h
  rwa [hi] at this
theorem cCycle (h : Rd w sl xs) (a k : Nat) {b : Bool} (hb : (cycO n xs a k).isSome = b) {L : List Int} (hL : cycL n xs a k = L) {m : Nat} (hm : L.length = m) : Calls Try.prog 38 #[.agg #[.int .i64 n, sl], .int .i64 a, .int .i64 k] w fun e w' => ∃ A c, e = .returned (.tuple #[.slice A m c, .bool b]) ∧ Own w' w.heap.size (.slice A m c) L ∧ Below w.heap.size w w' :=
  (implCycle n sl xs a k w h).mono fun e w' ⟨v, h1, h2, h3⟩ => by
    rw [hb] at h1
    rw [hL] at h2
    obtain ⟨A, c, rfl, -⟩ := h2.form
    rw [hm] at h1 h2
    exact ⟨A, c, h1, h2, h3⟩
theorem cWayB (h : Rd w sl xs) (a k : Nat) {b : Bool} (hb : (wbO n xs a k).isSome = b) {L : List Int} (hL : wbL n xs a k = L) {m : Nat} (hm : L.length = m) : Calls Try.prog 40 #[.agg #[.int .i64 n, sl], .int .i64 a, .int .i64 k] w fun e w' => ∃ A c, e = .returned (.tuple #[.slice A m c, .bool b]) ∧ Own w' w.heap.size (.slice A m c) L ∧ Below w.heap.size w w' :=
  (implWB n sl xs a k w h).mono fun e w' ⟨v, h1, h2, h3⟩ => by
    rw [hb] at h1
    rw [hL] at h2
    obtain ⟨A, c, rfl, -⟩ := h2.form
    rw [hm] at h1 h2
    exact ⟨A, c, h1, h2, h3⟩
theorem cIsCycle (h : Rd w sl xs) {yv : Value} {L : List Int} (h2 : Rd w yv L) {b : Bool} (hb : cycB n xs L = b) : Calls Try.prog 39 #[.agg #[.int .i64 n, sl], yv] w fun e w' => e = .returned (.bool b) ∧ Below w.heap.size w w' := by
  have := implIsCycle n sl xs yv L w h h2
  rwa [hb] at this
theorem cIsWay (h : Rd w sl xs) {yv : Value} {L : List Int} (h2 : Rd w yv L) {b : Bool} (hb : wayB n xs L = b) : Calls Try.prog 41 #[.agg #[.int .i64 n, sl], yv] w fun e w' => e = .returned (.bool b) ∧ Below w.heap.size w w' := by
  have := implIsWay n sl xs yv L w h h2
  rwa [hb] at this
theorem cFlipG (hp : tourP n xs) (h : Rd w sl xs) (a b : Nat) (ha : a < n) (hb : b < n) (hab : a ≠ b) : Calls Try.prog 43 #[.agg #[.int .i64 n, sl], .int .i64 a, .int .i64 b] w fun e w' => ∃ A c, e = .returned (.tuple #[.agg #[.int .i64 n, .slice A n c], .bool true]) ∧ Own w' w.heap.size (.slice A n c) (flipL xs a b) ∧ Below w.heap.size w w' :=
  (implFlip n sl xs a b w h).mono fun e w' ⟨v, h1, h2, h3⟩ => by
    have hok : flOk n xs a b = true := by
      unfold flOk
      rw [tourB_true.2 hp, show inB (a : Int) 0 ((n : Int) - 1) = true from inB_true.2 ⟨by omega, by omega⟩, show inB (b : Int) 0 ((n : Int) - 1) = true from inB_true.2 ⟨by omega, by omega⟩]
      simp
      omega
    unfold flS at h1
    unfold flL at h2
    rw [hok, if_pos rfl] at h1
    rw [hok, if_pos rfl, Int.toNat_natCast, Int.toNat_natCast] at h2
    obtain ⟨A, c, rfl, -⟩ := h2.form
    rw [flipL_len, tour_len hp] at h1 h2
    exact ⟨A, c, h1, h2, h3⟩
end
theorem parts_pos {n : Nat} {xs : List Int} (hp : tourP n xs) : 1 ≤ (partsN xs (2 ^ n - 1)).length := by
  refine Nat.pos_of_ne_zero fun h => ?_
  have h1 := pt_start hp
  rw [← h] at h1
  have h2 := pt_end hp h1
  have := Nat.pow_le_pow_right (n := 2) (by decide) (show 1 ≤ n by have := hp.1; omega)
  omega
end Go.Proofs.Ytajeledbmnndmaa

namespace Go.Proofs.Ytajeledbmnndmaa
open Go.RowKit Go.Sort
set_option maxRecDepth 100000
section
variable {md : Region.Mode} {ops : Array Oper}
def lxPairs (md : Region.Mode) (ops : Array Oper) (k : Nat) (o : Oper) (rest : List Oper) : Bool :=
  rest.all fun oj => oj.after.toList.any (fun e => Region.binds md e && e.on == k) || o.apart ops oj
def lxOk (md : Region.Mode) (ops : Array Oper) : List Oper → Nat → Bool
  | [], _ => true
  | o :: rest, k => (o.after.toList.all fun e => !Region.binds md e || decide (e.on < k)) && lxPairs md ops k o rest && lxOk md ops rest (k + 1)
theorem lexFrom_of : ∀ (l : List Oper) (k : Nat) (listed : Array Bool), (∀ j, l[j]? = ops[k + j]?) → listed.size = ops.size → (∀ j, j < k → j < ops.size → listed.getD j false = true) →
    (∀ j, k ≤ j → j < ops.size → listed.getD j true = false) → lxOk md ops l k = true → Region.lexFrom md ops l.length k listed = true := by
  intro l
  induction l with
  | nil =>
    intro k listed hl hs hlt _ _
    have hk : ops.size ≤ k := by
      have := (hl 0).symm
      simp only [List.getElem?_nil, Nat.add_zero] at this
      exact Array.getElem?_eq_none_iff.1 this
    show (Region.ready md ops listed).isEmpty = true
    rw [List.isEmpty_iff, List.eq_nil_iff_forall_not_mem]
    intro i hi
    obtain ⟨h1, o, ho, -⟩ := mem_ready.1 hi
    have hi2 : i < ops.size := (Array.getElem?_eq_some_iff.1 ho).1
    have h2 := hlt i (by omega) hi2
    have hi3 : i < listed.size := by omega
    simp [hi3] at h1 h2
    rw [h1] at h2
    cases h2
  | cons o rest ih =>
    intro k listed hl hs hlt hge hB
    simp only [lxOk, Bool.and_eq_true] at hB
    obtain ⟨⟨hA, hP⟩, hR⟩ := hB
    have h0 : ops[k]? = some o := by simpa using (hl 0).symm
    have hk : k < ops.size := (Array.getElem?_eq_some_iff.1 h0).1
    show ((Region.ready md ops listed).contains k && Region.free md ops listed k && Region.lexFrom md ops rest.length (k + 1) (listed.setIfInBounds k true)) = true
    rw [Bool.and_eq_true, Bool.and_eq_true]
    refine ⟨⟨?_, ?_⟩, ?_⟩
    · rw [List.contains_iff_mem]
      refine mem_ready.2 ⟨hge k (Nat.le_refl _) hk, o, h0, fun e he hb => ?_⟩
      have h1 := List.all_eq_true.1 hA e (by simpa using he)
      rw [hb] at h1
      simp only [Bool.not_true, Bool.false_or, decide_eq_true_eq] at h1
      exact hlt e.on h1 (by omega)
    · unfold Region.free
      rw [h0]
      simp only [List.all_eq_true, List.mem_range]
      intro j hj
      rw [Bool.or_eq_true, Bool.or_eq_true]
      rcases Nat.lt_trichotomy j k with h | h | h
      · left; right
        have h2 := hlt j h hj
        have hj3 : j < listed.size := by omega
        simp [hj3] at h2 ⊢
        exact h2
      · left; left; simp [h]
      · right
        have hj2 : ops[j]? = some ops[j] := by simp [hj]
        rw [hj2]
        have h3 : rest[j - k - 1]? = some ops[j] := by
          have := hl (j - k)
          rw [show k + (j - k) = j by omega, hj2, show j - k = (j - k - 1) + 1 by omega] at this
          simpa using this
        have h4 := List.all_eq_true.1 hP _ (List.mem_of_getElem? h3)
        rw [Bool.or_eq_true] at h4 ⊢
        rcases h4 with h4 | h4
        · left
          obtain ⟨e, he, hb⟩ := List.any_eq_true.1 h4
          exact Array.any_eq_true'.2 ⟨e, by simpa using he, hb⟩
        · exact .inr h4
    · refine ih (k + 1) _ (fun j => by have := hl (j + 1); simpa [Nat.add_assoc, Nat.add_comm 1 j] using this) (by simp [hs]) (fun j hj hj2 => ?_) (fun j hj hj2 => ?_) hR
      · rcases Nat.lt_or_ge j k with h | h
        · have h2 := hlt j h hj2
          have hj3 : j < listed.size := by omega
          simp [hj3] at h2 ⊢
          rw [Array.getElem_setIfInBounds]
          split
          · rfl
          · exact h2
        · obtain rfl : j = k := by omega
          have hj3 : j < listed.size := by omega
          simp [hj3]
      · have h2 := hge j (by omega) hj2
        have hj3 : j < listed.size := by omega
        simp [hj3] at h2 ⊢
        rw [Array.getElem_setIfInBounds, if_neg (by omega)]
        exact h2
theorem lexB_cheap {l : List Oper} (hs : Region.noSelect l.toArray = true) (h : lxOk md l.toArray l 0 = true) : Region.lexB md l.toArray = true := by
  unfold Region.lexB
  rw [hs, Bool.true_and]
  have := lexFrom_of (md := md) (ops := l.toArray) l 0 (Array.replicate l.toArray.size false) (by simp) (by simp) (fun j hj => by omega) (fun j _ hj => by simp at hj; simp [hj]) h
  simpa using this
end
end Go.Proofs.Ytajeledbmnndmaa

namespace Go.Proofs.Ytajeledbmnndmaa
open Go.RowKit Go.Sort

set_option maxHeartbeats 400000 in
theorem szIntS_any (v : Value) (xs : List Int) (left : Int) (w : World) (h : Rd w v xs) (h0 : 0 ≤ left) (h1 : left ≤ 16777216) :
    Calls Try.prog 64 #[v, .int .i64 left] w fun e w' => e = .returned (.int .i64 (szI xs.length left)) ∧ Below w.heap.size w w' := by
  obtain ⟨A, c, rfl, hl1, hm1, -⟩ := h
  unfold maxLen at hm1
  by_cases hz : 0 ≤ left - (xs.length : Int)
  all_goals
    go_enter Try.func64, Try.ntmps64
    go_wp2
    go_ret
    first
      | exact ⟨ret_int (szI_yes hz).symm, Below.refl _ _⟩
      | exact ⟨ret_int (szI_no (by omega)).symm, Below.refl _ _⟩
set_option maxHeartbeats 400000 in
theorem szTour_any (s : Int) (sl : Value) (xs : List Int) (left : Int) (w : World) (h : Rd w sl xs) (h0 : 0 ≤ left) (h1 : left ≤ 16777216) :
    Calls Try.prog 9 #[.agg #[.int .i64 s, sl], .int .i64 left] w fun e w' => e = .returned (.int .i64 (szI xs.length left)) ∧ Below w.heap.size w w' := by
  have HR := Lib.hid h
  obtain ⟨A, c, rfl, -, -, -⟩ := h
  by_cases hz : 0 ≤ left - (xs.length : Int)
  all_goals
    go_enter Try.func9, Try.ntmps9
    go_wp2_with fail
    refine (szIntS_any _ xs left _ (HR.out.alloc _) h0 h1).mono ?_
    rintro e w1 ⟨rfl, hb⟩
    have HB := Lib.hid (Below.then (below_alloc1 _ _) hb)
    clear hb
    first | rw [szI_yes (by omega)] | rw [szI_no (by omega)]
    go_wp2
    go_ret
    first
      | exact ⟨ret_int (szI_yes (by omega)).symm, HB.out⟩
      | exact ⟨ret_int (szI_no (by omega)).symm, HB.out⟩
set_option maxHeartbeats 400000 in
theorem toTour_any (s : Int) (sl : Value) (xs : List Int) (w : World) (h : Rd w sl xs) (hlen : xs.length ≤ 2097152) :
    Calls Try.prog 11 #[.agg #[.int .i64 s, sl]] w fun e w' => ∃ sl', e = .returned (.agg #[.int .i64 s, sl']) ∧ Own w' w.heap.size sl' xs ∧ Below w.heap.size w w' := by
  have HR := Lib.hid h
  obtain ⟨A, c, rfl, -, -, -⟩ := h
  go_enter Try.func11, Try.ntmps11
  go_wp2_with fail
  refine (toIntS_any _ xs _ (((HR.out.alloc _).alloc _).alloc _) hlen).mono ?_
  rintro e w1 ⟨sl', rfl, ho, hb⟩
  obtain ⟨A', c', rfl, -, -, -⟩ := ho.form
  have hs := hb.size
  simp at hs
  obtain ⟨hc, hf⟩ := bcell hb
  have HB := Lib.hid hb
  have HO := Lib.hid ho
  have F1 : ∀ o, w1.cell? ⟨w.heap.size + 1, o, none⟩ = _ := fun o => hc _ _ (by simp)
  have F2 : ∀ o, w1.cell? ⟨w.heap.size + 1 + 1, o, none⟩ = _ := fun o => hc _ _ (by simp)
  have G1 : ∀ o, w1.frozen? ⟨w.heap.size + 1, o, none⟩ = _ := fun o => hf _ _ (by simp)
  have G2 : ∀ o, w1.frozen? ⟨w.heap.size + 1 + 1, o, none⟩ = _ := fun o => hf _ _ (by simp)
  clear hb ho hc hf
  go_wp2
  have q0 : w1.cell? ⟨w.heap.size + 1, 0, none⟩ = some (.int .i64 0) := (F1 0).trans (by simp [go_sem])
  have q1 : w1.cell? ⟨w.heap.size + 1, 1, none⟩ = some (.slice none 0 0) := (F1 1).trans (by simp [go_sem])
  have RB := read_back (w1 := w1) (g := w.heap.size + 1) (h := w.heap.size + 1 + 1) (by omega) q0 q1 (u := .int .i64 s) (v := .slice A' xs.length c') (z := .slice A' xs.length c')
  obtain ⟨r0, r1⟩ := RB
  have hb' := HB.out
  have hlt : ∀ k, (Value.slice A' xs.length c').ownBlock = some k → w.heap.size + 1 + 1 + 1 ≤ k := fun k hk => by have := (HO.out.lt k hk).1; simp at this; omega
  have e1 : Below w.heap.size w w1 := Below.then (((below_alloc1 _ _).alloc (by simp) _).alloc (by simp; omega) _) hb'
  have ho1 := ((HO.out.kept (setCell_grown w1 ⟨w.heap.size + 1 + 1, 1, none⟩ (.slice A' xs.length c')) (own_ne hlt (by simp; try omega))).kept (setCell_grown _ ⟨w.heap.size + 1, 0, none⟩ (.int .i64 s)) (own_ne hlt (by simp; try omega))).kept (setCell_grown _ ⟨w.heap.size + 1, 1, none⟩ (.slice A' xs.length c')) (own_ne hlt (by simp; try omega))
  have e2 := ((e1.setCell (p := ⟨w.heap.size + 1 + 1, 1, none⟩) (by simp; omega) (.slice A' xs.length c')).setCell (p := ⟨w.heap.size + 1, 0, none⟩) (by simp) (.int .i64 s)).setCell (p := ⟨w.heap.size + 1, 1, none⟩) (by simp) (.slice A' xs.length c')
  refine bodyPost_ret (v := .agg #[.int .i64 s, .slice A' xs.length c']) (by simp only [results, Try.results11]; simp [go_sem, r0, r1]) rfl ⟨_, rfl, ho1.mono (by simp; omega), e2⟩
set_option maxHeartbeats 400000 in
theorem eqTour_refl (s : Int) (v1 v2 : Value) (xs : List Int) (w : World) (h1 : Rd w v1 xs) (h2 : Rd w v2 xs) :
    Calls Try.prog 14 #[.agg #[.int .i64 s, v1], .agg #[.int .i64 s, v2]] w fun e w' => e = .returned (.bool true) ∧ Below w.heap.size w w' := by
  have H1 := Lib.hid h1
  have H2 := Lib.hid h2
  obtain ⟨A, c, rfl, -, -, -⟩ := h1
  obtain ⟨B, d, rfl, -, -, -⟩ := h2
  have hne : (s != s) = false := by simp
  go_enter Try.func14, Try.ntmps14
  go_wp2_with fail
  refine (of_drew (eqIntS_refl _ _ xs _ ((H1.out.alloc _).alloc _) ((H2.out.alloc _).alloc _))).mono ?_
  rintro e w1 ⟨rfl, hb⟩
  have HB := Lib.hid (Below.then ((below_alloc1 _ _).alloc (by simp) _) hb)
  clear hb
  go_wp2
  go_ret
  exact ⟨rfl, HB.out⟩
end Go.Proofs.Ytajeledbmnndmaa

namespace Go.Proofs.Ytajeledbmnndmaa
open Go.RowKit Go.Sort
set_option maxRecDepth 100000
theorem pow_lt_big {k : Nat} (h : k ≤ 50) : 2 ^ k ≤ 1125899906842624 := Nat.le_trans (Nat.pow_le_pow_right (by decide) h) (by decide)
theorem bit_num (W b : Nat) : bits .and .i64 ((W : Int) / 2 ^ b) 1 = ((W.testBit b).toNat : Int) := by
  rw [i64_and_one]
  have : (W : Int) / 2 ^ b % 2 = ((W / 2 ^ b % 2 : Nat) : Int) := by simp
  rw [this, Nat.testBit_eq_decide_div_mod_eq]
  rcases Nat.mod_two_eq_zero_or_one (W / 2 ^ b) with h | h <;> rw [h] <;> rfl
end Go.Proofs.Ytajeledbmnndmaa

namespace Go.Proofs.Ytajeledbmnndmaa
open Go.RowKit Go.Sort
set_option maxRecDepth 100000
/-- the pairs that are done at (a, b) -/
def donePair (a b x y : Nat) : Prop := (x < a ∨ y < a) ∨ (x = a ∧ y < b) ∨ (y = a ∧ x < b)
/-- the rows of a tour that is half made -/
def HalfT (n a b : Nat) (N : List Int) : Prop := N.length = n ∧ ∃ f : Nat → Nat → Bool,
  (∀ x y, f x y = true → x < n ∧ y < n ∧ x ≠ y ∧ donePair a b x y) ∧ (∀ x y, x < n → y < n → x ≠ y → donePair a b x y → f x y = !f y x) ∧ ∀ x, x < n → N.getD x 0 = ((setOf (f x) n : Nat) : Int)
theorem setOf_more {p q : Nat → Bool} {y : Nat} (h0 : p y = false) (h1 : q y = true) (h2 : ∀ z, z ≠ y → q z = p z) : ∀ {n : Nat}, y < n → setOf q n = setOf p n + 2 ^ y := by
  intro n
  induction n with
  | zero => intro h; omega
  | succ n ih =>
    intro h
    simp only [setOf]
    by_cases e : y = n
    · subst e
      rw [h0, h1, setOf_congr (q := p) (fun j hj => h2 j (by omega))]; simp
    · rw [ih (by omega), h2 n (Ne.symm e)]; omega
theorem HalfT.start (n : Nat) : HalfT n 0 1 (List.replicate n 0) := by
  refine ⟨by simp, fun _ _ => false, fun x y h => by simp at h, fun x y hx hy hxy h => ?_, fun x hx => ?_⟩
  · unfold donePair at h; omega
  · rw [setOf_congr (q := fun _ => false) (fun _ _ => rfl)]
    have : setOf (fun _ => false) n = 0 := by
      clear hx
      induction n with
      | zero => rfl
      | succ n ih => simp [setOf, ih]
    rw [this]; simp [hx]
theorem HalfT.row {n a : Nat} {N : List Int} (h : HalfT n a n N) : HalfT n (a + 1) (a + 2) N := by
  obtain ⟨hl, f, h1, h2, h3⟩ := h
  have e : ∀ x y, x < n → y < n → x ≠ y → (donePair a n x y ↔ donePair (a + 1) (a + 2) x y) := fun x y hx hy hxy => by unfold donePair; omega
  exact ⟨hl, f, fun x y h => ⟨(h1 x y h).1, (h1 x y h).2.1, (h1 x y h).2.2.1, (e x y (h1 x y h).1 (h1 x y h).2.1 (h1 x y h).2.2.1).1 (h1 x y h).2.2.2⟩, fun x y hx hy hxy h => h2 x y hx hy hxy ((e x y hx hy hxy).2 h), h3⟩
/-- one game: u beats v, where {u, v} = {a, b} -/
theorem HalfT.game {n a b u v : Nat} {N : List Int} (h : HalfT n a b N) (hab : a < b) (hb : b < n) (huv : (u = a ∧ v = b) ∨ (u = b ∧ v = a)) {X : Nat} (hX : N.getD u 0 = (X : Int)) : HalfT n a (b + 1) (N.set u ((X + 2 ^ v : Nat) : Int)) := by
  obtain ⟨hl, f, h1, h2, h3⟩ := h
  have n1 : f u v = false := by
    rcases e : f u v with _ | _
    · rfl
    · have := (h1 u v e).2.2.2; unfold donePair at this; omega
  have n2 : f v u = false := by
    rcases e : f v u with _ | _
    · rfl
    · have := (h1 v u e).2.2.2; unfold donePair at this; omega
  refine ⟨by simp [hl], fun x y => f x y || (x == u && y == v), fun x y h => ?_, fun x y hx hy hxy hd => ?_, fun x hx => ?_⟩
  · rw [Bool.or_eq_true, Bool.and_eq_true, beq_iff_eq, beq_iff_eq] at h
    rcases h with h | ⟨rfl, rfl⟩
    · obtain ⟨p1, p2, p3, p4⟩ := h1 x y h
      exact ⟨p1, p2, p3, by unfold donePair at p4 ⊢; omega⟩
    · exact ⟨by omega, by omega, by omega, by unfold donePair; omega⟩
  · by_cases e1 : x = u ∧ y = v
    · obtain ⟨rfl, rfl⟩ := e1
      have : (y == x) = false := by simp; omega
      simp [n1, n2, this]
    · by_cases e2 : x = v ∧ y = u
      · obtain ⟨rfl, rfl⟩ := e2
        have : (x == y) = false := by simp; omega
        simp [n1, n2, this]
      · have hd' : donePair a b x y := by unfold donePair at hd ⊢; omega
        have q1 : (x == u && y == v) = false := by
          rcases q : (x == u && y == v) with _ | _
          · rfl
          · simp at q; exact absurd q e1
        have q2 : (y == u && x == v) = false := by
          rcases q : (y == u && x == v) with _ | _
          · rfl
          · simp at q; exact absurd ⟨q.2, q.1⟩ e2
        simp only [q1, q2, Bool.or_false]
        exact h2 x y hx hy hxy hd'
  · by_cases e : x = u
    · subst e
      rw [show (N.set x ((X + 2 ^ v : Nat) : Int)).getD x 0 = ((X + 2 ^ v : Nat) : Int) by simp [List.getD_eq_getElem?_getD, show x < N.length by omega]]
      have e3 : setOf (f x) n = X := by have := h3 x hx; omega
      rw [setOf_more (p := f x) (y := v) n1 (by simp) (fun z hz => by simp [hz]) (by omega), e3]
    · rw [show (N.set u ((X + 2 ^ v : Nat) : Int)).getD x 0 = N.getD x 0 by simp [List.getD_eq_getElem?_getD, List.getElem?_set_ne (Ne.symm e)], h3 x hx]
      have : setOf (fun y => f x y || (x == u && y == v)) n = setOf (f x) n := setOf_congr fun j _ => by simp [e]
      rw [this]
theorem HalfT.lt {n a b : Nat} {N : List Int} (h : HalfT n a b N) {x : Nat} (hx : x < n) : ∃ X : Nat, N.getD x 0 = (X : Int) ∧ X < 2 ^ n := by
  obtain ⟨hl, f, h1, h2, h3⟩ := h
  exact ⟨_, h3 x hx, setOf_lt _ _⟩
theorem HalfT.tour {n b : Nat} {N : List Int} (h : HalfT n n b N) (h1 : 1 ≤ n) (h8 : n ≤ 8) : tourP n N := by
  obtain ⟨hl, f, q1, q2, q3⟩ := h
  have hb : ∀ x y, x < n → bt N x y = (decide (y < n) && f x y) := fun x y hx => by
    unfold bt winsN
    rw [q3 x hx, Int.toNat_natCast, testBit_setOf]
  refine tour_of_bits (by omega) (by omega) (fun i hi => ⟨_, q3 i (by omega), by rw [hl]; exact setOf_lt _ _⟩) (fun a ha => ?_) (fun a c ha hc hac => ?_)
  · rw [hb a a (by omega)]
    rcases e : f a a with _ | _
    · simp
    · exact absurd rfl (q1 a a e).2.2.1
  · rw [hb a c (by omega), hb c a (by omega), q2 a c (by omega) (by omega) hac (by unfold donePair; omega)]
    simp [show a < n by omega, show c < n by omega]
end Go.Proofs.Ytajeledbmnndmaa

