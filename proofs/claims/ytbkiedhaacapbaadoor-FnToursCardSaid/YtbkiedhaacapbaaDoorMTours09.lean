/- Texts put together: Cover, FlipG, FlipT, FlN, Trn, Dif, TuP, TourL, Code, Way. -/
import Derived.Test.YtbkiedhaacapbaaDoorMTours03
import Derived.Test.YtbkiedhaacapbaaDoorMTours08
import Derived.Test.YtbkiedhaacapbaaDoorMTours05
import Derived.Test.YtbkiedhaacapbaaDoorMTours07
import Derived.Test.YtbkiedhaacapbaaDoorMTours02
import Derived.Test.YtbkiedhaacapbaaDoorMTours01
import Derived.Test.YtbkiedhaacapbaaDoorMTours06
namespace Go.Proofs.YtbkiedhaacapbaaDoor
open Go.RowKit Go.Sort

noncomputable def coverB (s : Int) (xs : List Int) (a b : Int) : Bool := beatB s xs a b && (bits BinOp.andNot IntKind.i64 (xs.getD b.toNat 0) (xs.getD a.toNat 0) == 0)

end Go.Proofs.YtbkiedhaacapbaaDoor

namespace Go.Proofs.YtbkiedhaacapbaaDoor
open Go.RowKit Go.Sort
set_option maxRecDepth 100000

noncomputable def flOk (s : Int) (xs : List Int) (a b : Int) : Bool := tourB s xs && (inB a 0 (s - 1) && (inB b 0 (s - 1) && !(a == b)))
noncomputable def flS (s : Int) (xs : List Int) (a b : Int) : Int := if flOk s xs a b = true then s else 0
noncomputable def flL (s : Int) (xs : List Int) (a b : Int) : List Int := if flOk s xs a b = true then flipL xs a.toNat b.toNat else []
theorem fl_no {s : Int} {xs : List Int} {a b : Int} (h : flOk s xs a b = false) : flS s xs a b = 0 ∧ flL s xs a b = [] := by simp [flS, flL, h]
theorem fl_yes {s : Int} {xs : List Int} {a b : Int} (h : flOk s xs a b = true) : flS s xs a b = s ∧ flL s xs a b = flipL xs a.toNat b.toNat := by simp [flS, flL, h]
theorem flL_len (s : Int) (xs : List Int) (a b : Int) : (flL s xs a b).length ≤ 8 := by
  unfold flL
  split
  · rename_i h
    unfold flOk at h
    rw [Bool.and_eq_true] at h
    have := (tourB_true.1 h.1).1
    have := (tourB_true.1 h.1).2.1
    rw [flipL_len]; omega
  · simp
set_option maxHeartbeats 4000000 in
theorem implFlip (s : Int) (sl : Value) (xs : List Int) (a b : Int) (w : World) (h : Rd w sl xs) :
    Calls Tryd.prog 34 #[.agg #[.int .i64 s, sl], .int .i64 a, .int .i64 b] w fun e w' => ∃ sl', e = .returned (.tuple #[.agg #[.int .i64 (flS s xs a b), sl'], .bool (flOk s xs a b)]) ∧ Own w' w.heap.size sl' (flL s xs a b) ∧ Below w.heap.size w w' := by
  have HR := Lib.hid h
  obtain ⟨A, c, rfl, -, -, -⟩ := h
  rcases q0 : tourB s xs with _ | _
  case false =>
    go_enter Tryd.func34, Tryd.ntmps34
    go_wp2_with fail
    have b0 := (below_alloc1 w (.cells #[.int .i64 s, .slice A xs.length c] 25)).alloc (by simp) (.cells #[.int .i64 0, .slice none 0 0] 25)
    have x0 := (TBox.new w s (.slice A xs.length c) 25).below (below_alloc1 _ (.cells #[.int .i64 0, .slice none 0 0] 25))
    have t0 := BoxF.new (w.alloc (.cells #[.int .i64 s, .slice A xs.length c] 25)) 0 (.slice none 0 0) 25
    simp only [World.size_alloc] at t0
    generalize (w.alloc (.cells #[.int .i64 s, .slice A xs.length c] 25)).alloc (.cells #[.int .i64 0, .slice none 0 0] 25) = w0 at *
    have HX0 := Lib.hid x0
    have HB0 := Lib.hid b0
    have HT0 := Lib.hid t0
    clear x0 b0 t0
    have y0_0 := HX0.out.1
    have y1_0 := HX0.out.2
    go_wp2_with fail
    refine (implTourOk s _ xs _ (HR.out.below HB0.out)).mono ?_
    rintro e w1 ⟨rfl, hb⟩
    have HX1 := Lib.hid (HX0.out.below hb)
    have HT1 := Lib.hid (HT0.out.below hb)
    have HB1 := Lib.hid (Below.then HB0.out hb)
    clear hb HX0 HT0 HB0 y0_0 y1_0
    have y0_1 := HX1.out.1
    have y1_1 := HX1.out.2
    rw [q0]
    have v0 := HT1.out.1.1
    have v1 := HT1.out.1.2
    have f0 := HT1.out.2 0
    have f1 := HT1.out.2 1
    have HBx := Lib.hid ((HB1.out.setCell (p := ⟨w.heap.size + 1, 0, none⟩) (by simp) (.int .i64 0)).setCell (p := ⟨w.heap.size + 1, 1, none⟩) (by simp) (.slice none 0 0))
    have R0 : Hid (((w1.setCell ⟨w.heap.size + 1, 0, none⟩ (.int .i64 0)).setCell ⟨w.heap.size + 1, 1, none⟩ (.slice none 0 0)).cell? ⟨w.heap.size + 1, 0, none⟩ = some (.int .i64 0)) := (World.cell?_setCell_other _ _ _ _ (by simp)).trans (World.cell?_setCell_same _ _ _ v0)
    have R1 : Hid (((w1.setCell ⟨w.heap.size + 1, 0, none⟩ (.int .i64 0)).setCell ⟨w.heap.size + 1, 1, none⟩ (.slice none 0 0)).cell? ⟨w.heap.size + 1, 1, none⟩ = some (.slice none 0 0)) := World.cell?_setCell_same _ _ _ ((World.cell?_setCell_other _ _ _ _ (by simp)).trans v1)
    go_wp2
    have r0 := R0.out
    have r1 := R1.out
    have hno : flOk s xs a b = false := by first | (simp [flOk, q0]; done) | (simp [flOk, q1]; done) | (simp [flOk, q2]; done) | (simp [flOk, q3]; done)
    refine bodyPost_ret (v := .tuple #[.agg #[.int .i64 0, .slice none 0 0], .bool false]) (by simp only [results, Tryd.results34]; simp [go_sem, r0, r1]) rfl ⟨_, by rw [(fl_no hno).1, hno], by rw [(fl_no hno).2]; exact Own.nil_ _ _, HBx.out⟩
  have hp := tourB_true.1 q0
  have hs := hp.1
  have hl := hp.2.1
  rcases q1 : inB a 0 (s - 1) with _ | _
  case false =>
    go_enter Tryd.func34, Tryd.ntmps34
    go_wp2_with fail
    have b0 := (below_alloc1 w (.cells #[.int .i64 s, .slice A xs.length c] 25)).alloc (by simp) (.cells #[.int .i64 0, .slice none 0 0] 25)
    have x0 := (TBox.new w s (.slice A xs.length c) 25).below (below_alloc1 _ (.cells #[.int .i64 0, .slice none 0 0] 25))
    have t0 := BoxF.new (w.alloc (.cells #[.int .i64 s, .slice A xs.length c] 25)) 0 (.slice none 0 0) 25
    simp only [World.size_alloc] at t0
    generalize (w.alloc (.cells #[.int .i64 s, .slice A xs.length c] 25)).alloc (.cells #[.int .i64 0, .slice none 0 0] 25) = w0 at *
    have HX0 := Lib.hid x0
    have HB0 := Lib.hid b0
    have HT0 := Lib.hid t0
    clear x0 b0 t0
    have y0_0 := HX0.out.1
    have y1_0 := HX0.out.2
    go_wp2_with fail
    refine (implTourOk s _ xs _ (HR.out.below HB0.out)).mono ?_
    rintro e w1 ⟨rfl, hb⟩
    have HX1 := Lib.hid (HX0.out.below hb)
    have HT1 := Lib.hid (HT0.out.below hb)
    have HB1 := Lib.hid (Below.then HB0.out hb)
    clear hb HX0 HT0 HB0 y0_0 y1_0
    have y0_1 := HX1.out.1
    have y1_1 := HX1.out.2
    rw [q0]
    go_wp2_with fail
    refine (has_any s (.slice A xs.length c) a _ (by omega)).mono ?_
    rintro e w2 ⟨rfl, hb⟩
    have HX2 := Lib.hid (HX1.out.below hb)
    have HT2 := Lib.hid (HT1.out.below hb)
    have HB2 := Lib.hid (Below.then HB1.out hb)
    clear hb HX1 HT1 HB1 y0_1 y1_1
    have y0_2 := HX2.out.1
    have y1_2 := HX2.out.2
    rw [q1]
    have v0 := HT2.out.1.1
    have v1 := HT2.out.1.2
    have f0 := HT2.out.2 0
    have f1 := HT2.out.2 1
    have HBx := Lib.hid ((HB2.out.setCell (p := ⟨w.heap.size + 1, 0, none⟩) (by simp) (.int .i64 0)).setCell (p := ⟨w.heap.size + 1, 1, none⟩) (by simp) (.slice none 0 0))
    have R0 : Hid (((w2.setCell ⟨w.heap.size + 1, 0, none⟩ (.int .i64 0)).setCell ⟨w.heap.size + 1, 1, none⟩ (.slice none 0 0)).cell? ⟨w.heap.size + 1, 0, none⟩ = some (.int .i64 0)) := (World.cell?_setCell_other _ _ _ _ (by simp)).trans (World.cell?_setCell_same _ _ _ v0)
    have R1 : Hid (((w2.setCell ⟨w.heap.size + 1, 0, none⟩ (.int .i64 0)).setCell ⟨w.heap.size + 1, 1, none⟩ (.slice none 0 0)).cell? ⟨w.heap.size + 1, 1, none⟩ = some (.slice none 0 0)) := World.cell?_setCell_same _ _ _ ((World.cell?_setCell_other _ _ _ _ (by simp)).trans v1)
    go_wp2
    have r0 := R0.out
    have r1 := R1.out
    have hno : flOk s xs a b = false := by first | (simp [flOk, q0]; done) | (simp [flOk, q1]; done) | (simp [flOk, q2]; done) | (simp [flOk, q3]; done)
    refine bodyPost_ret (v := .tuple #[.agg #[.int .i64 0, .slice none 0 0], .bool false]) (by simp only [results, Tryd.results34]; simp [go_sem, r0, r1]) rfl ⟨_, by rw [(fl_no hno).1, hno], by rw [(fl_no hno).2]; exact Own.nil_ _ _, HBx.out⟩
  have ha := inB_true.1 q1
  rcases q2 : inB b 0 (s - 1) with _ | _
  case false =>
    go_enter Tryd.func34, Tryd.ntmps34
    go_wp2_with fail
    have b0 := (below_alloc1 w (.cells #[.int .i64 s, .slice A xs.length c] 25)).alloc (by simp) (.cells #[.int .i64 0, .slice none 0 0] 25)
    have x0 := (TBox.new w s (.slice A xs.length c) 25).below (below_alloc1 _ (.cells #[.int .i64 0, .slice none 0 0] 25))
    have t0 := BoxF.new (w.alloc (.cells #[.int .i64 s, .slice A xs.length c] 25)) 0 (.slice none 0 0) 25
    simp only [World.size_alloc] at t0
    generalize (w.alloc (.cells #[.int .i64 s, .slice A xs.length c] 25)).alloc (.cells #[.int .i64 0, .slice none 0 0] 25) = w0 at *
    have HX0 := Lib.hid x0
    have HB0 := Lib.hid b0
    have HT0 := Lib.hid t0
    clear x0 b0 t0
    have y0_0 := HX0.out.1
    have y1_0 := HX0.out.2
    go_wp2_with fail
    refine (implTourOk s _ xs _ (HR.out.below HB0.out)).mono ?_
    rintro e w1 ⟨rfl, hb⟩
    have HX1 := Lib.hid (HX0.out.below hb)
    have HT1 := Lib.hid (HT0.out.below hb)
    have HB1 := Lib.hid (Below.then HB0.out hb)
    clear hb HX0 HT0 HB0 y0_0 y1_0
    have y0_1 := HX1.out.1
    have y1_1 := HX1.out.2
    rw [q0]
    go_wp2_with fail
    refine (has_any s (.slice A xs.length c) a _ (by omega)).mono ?_
    rintro e w2 ⟨rfl, hb⟩
    have HX2 := Lib.hid (HX1.out.below hb)
    have HT2 := Lib.hid (HT1.out.below hb)
    have HB2 := Lib.hid (Below.then HB1.out hb)
    clear hb HX1 HT1 HB1 y0_1 y1_1
    have y0_2 := HX2.out.1
    have y1_2 := HX2.out.2
    rw [q1]
    go_wp2_with fail
    refine (has_any s (.slice A xs.length c) b _ (by omega)).mono ?_
    rintro e w3 ⟨rfl, hb⟩
    have HX3 := Lib.hid (HX2.out.below hb)
    have HT3 := Lib.hid (HT2.out.below hb)
    have HB3 := Lib.hid (Below.then HB2.out hb)
    clear hb HX2 HT2 HB2 y0_2 y1_2
    have y0_3 := HX3.out.1
    have y1_3 := HX3.out.2
    rw [q2]
    have v0 := HT3.out.1.1
    have v1 := HT3.out.1.2
    have f0 := HT3.out.2 0
    have f1 := HT3.out.2 1
    have HBx := Lib.hid ((HB3.out.setCell (p := ⟨w.heap.size + 1, 0, none⟩) (by simp) (.int .i64 0)).setCell (p := ⟨w.heap.size + 1, 1, none⟩) (by simp) (.slice none 0 0))
    have R0 : Hid (((w3.setCell ⟨w.heap.size + 1, 0, none⟩ (.int .i64 0)).setCell ⟨w.heap.size + 1, 1, none⟩ (.slice none 0 0)).cell? ⟨w.heap.size + 1, 0, none⟩ = some (.int .i64 0)) := (World.cell?_setCell_other _ _ _ _ (by simp)).trans (World.cell?_setCell_same _ _ _ v0)
    have R1 : Hid (((w3.setCell ⟨w.heap.size + 1, 0, none⟩ (.int .i64 0)).setCell ⟨w.heap.size + 1, 1, none⟩ (.slice none 0 0)).cell? ⟨w.heap.size + 1, 1, none⟩ = some (.slice none 0 0)) := World.cell?_setCell_same _ _ _ ((World.cell?_setCell_other _ _ _ _ (by simp)).trans v1)
    go_wp2
    have r0 := R0.out
    have r1 := R1.out
    have hno : flOk s xs a b = false := by first | (simp [flOk, q0]; done) | (simp [flOk, q1]; done) | (simp [flOk, q2]; done) | (simp [flOk, q3]; done)
    refine bodyPost_ret (v := .tuple #[.agg #[.int .i64 0, .slice none 0 0], .bool false]) (by simp only [results, Tryd.results34]; simp [go_sem, r0, r1]) rfl ⟨_, by rw [(fl_no hno).1, hno], by rw [(fl_no hno).2]; exact Own.nil_ _ _, HBx.out⟩
  have hb := inB_true.1 q2
  rcases q3 : (a == b) with _ | _
  case true =>
    go_enter Tryd.func34, Tryd.ntmps34
    go_wp2_with fail
    have b0 := (below_alloc1 w (.cells #[.int .i64 s, .slice A xs.length c] 25)).alloc (by simp) (.cells #[.int .i64 0, .slice none 0 0] 25)
    have x0 := (TBox.new w s (.slice A xs.length c) 25).below (below_alloc1 _ (.cells #[.int .i64 0, .slice none 0 0] 25))
    have t0 := BoxF.new (w.alloc (.cells #[.int .i64 s, .slice A xs.length c] 25)) 0 (.slice none 0 0) 25
    simp only [World.size_alloc] at t0
    generalize (w.alloc (.cells #[.int .i64 s, .slice A xs.length c] 25)).alloc (.cells #[.int .i64 0, .slice none 0 0] 25) = w0 at *
    have HX0 := Lib.hid x0
    have HB0 := Lib.hid b0
    have HT0 := Lib.hid t0
    clear x0 b0 t0
    have y0_0 := HX0.out.1
    have y1_0 := HX0.out.2
    go_wp2_with fail
    refine (implTourOk s _ xs _ (HR.out.below HB0.out)).mono ?_
    rintro e w1 ⟨rfl, hb⟩
    have HX1 := Lib.hid (HX0.out.below hb)
    have HT1 := Lib.hid (HT0.out.below hb)
    have HB1 := Lib.hid (Below.then HB0.out hb)
    clear hb HX0 HT0 HB0 y0_0 y1_0
    have y0_1 := HX1.out.1
    have y1_1 := HX1.out.2
    rw [q0]
    go_wp2_with fail
    refine (has_any s (.slice A xs.length c) a _ (by omega)).mono ?_
    rintro e w2 ⟨rfl, hb⟩
    have HX2 := Lib.hid (HX1.out.below hb)
    have HT2 := Lib.hid (HT1.out.below hb)
    have HB2 := Lib.hid (Below.then HB1.out hb)
    clear hb HX1 HT1 HB1 y0_1 y1_1
    have y0_2 := HX2.out.1
    have y1_2 := HX2.out.2
    rw [q1]
    go_wp2_with fail
    refine (has_any s (.slice A xs.length c) b _ (by omega)).mono ?_
    rintro e w3 ⟨rfl, hb⟩
    have HX3 := Lib.hid (HX2.out.below hb)
    have HT3 := Lib.hid (HT2.out.below hb)
    have HB3 := Lib.hid (Below.then HB2.out hb)
    clear hb HX2 HT2 HB2 y0_2 y1_2
    have y0_3 := HX3.out.1
    have y1_3 := HX3.out.2
    rw [q2]
    have v0 := HT3.out.1.1
    have v1 := HT3.out.1.2
    have f0 := HT3.out.2 0
    have f1 := HT3.out.2 1
    have HBx := Lib.hid ((HB3.out.setCell (p := ⟨w.heap.size + 1, 0, none⟩) (by simp) (.int .i64 0)).setCell (p := ⟨w.heap.size + 1, 1, none⟩) (by simp) (.slice none 0 0))
    have R0 : Hid (((w3.setCell ⟨w.heap.size + 1, 0, none⟩ (.int .i64 0)).setCell ⟨w.heap.size + 1, 1, none⟩ (.slice none 0 0)).cell? ⟨w.heap.size + 1, 0, none⟩ = some (.int .i64 0)) := (World.cell?_setCell_other _ _ _ _ (by simp)).trans (World.cell?_setCell_same _ _ _ v0)
    have R1 : Hid (((w3.setCell ⟨w.heap.size + 1, 0, none⟩ (.int .i64 0)).setCell ⟨w.heap.size + 1, 1, none⟩ (.slice none 0 0)).cell? ⟨w.heap.size + 1, 1, none⟩ = some (.slice none 0 0)) := World.cell?_setCell_same _ _ _ ((World.cell?_setCell_other _ _ _ _ (by simp)).trans v1)
    go_wp2
    have r0 := R0.out
    have r1 := R1.out
    have hno : flOk s xs a b = false := by first | (simp [flOk, q0]; done) | (simp [flOk, q1]; done) | (simp [flOk, q2]; done) | (simp [flOk, q3]; done)
    refine bodyPost_ret (v := .tuple #[.agg #[.int .i64 0, .slice none 0 0], .bool false]) (by simp only [results, Tryd.results34]; simp [go_sem, r0, r1]) rfl ⟨_, by rw [(fl_no hno).1, hno], by rw [(fl_no hno).2]; exact Own.nil_ _ _, HBx.out⟩
  have hyes : flOk s xs a b = true := by simp [flOk, q0, q1, q2, q3]
  have he := fl_yes hyes
  rw [he.1, he.2, hyes]
  go_enter Tryd.func34, Tryd.ntmps34
  go_wp2_with fail
  have b0 := (below_alloc1 w (.cells #[.int .i64 s, .slice A xs.length c] 25)).alloc (by simp) (.cells #[.int .i64 0, .slice none 0 0] 25)
  have x0 := (TBox.new w s (.slice A xs.length c) 25).below (below_alloc1 _ (.cells #[.int .i64 0, .slice none 0 0] 25))
  have t0 := BoxF.new (w.alloc (.cells #[.int .i64 s, .slice A xs.length c] 25)) 0 (.slice none 0 0) 25
  simp only [World.size_alloc] at t0
  generalize (w.alloc (.cells #[.int .i64 s, .slice A xs.length c] 25)).alloc (.cells #[.int .i64 0, .slice none 0 0] 25) = w0 at *
  have HX0 := Lib.hid x0
  have HB0 := Lib.hid b0
  have HT0 := Lib.hid t0
  clear x0 b0 t0
  have y0_0 := HX0.out.1
  have y1_0 := HX0.out.2
  go_wp2_with fail
  refine (implTourOk s _ xs _ (HR.out.below HB0.out)).mono ?_
  rintro e w1 ⟨rfl, hb⟩
  have HX1 := Lib.hid (HX0.out.below hb)
  have HT1 := Lib.hid (HT0.out.below hb)
  have HB1 := Lib.hid (Below.then HB0.out hb)
  clear hb HX0 HT0 HB0 y0_0 y1_0
  have y0_1 := HX1.out.1
  have y1_1 := HX1.out.2
  rw [q0]
  go_wp2_with fail
  refine (has_any s (.slice A xs.length c) a _ (by omega)).mono ?_
  rintro e w2 ⟨rfl, hb⟩
  have HX2 := Lib.hid (HX1.out.below hb)
  have HT2 := Lib.hid (HT1.out.below hb)
  have HB2 := Lib.hid (Below.then HB1.out hb)
  clear hb HX1 HT1 HB1 y0_1 y1_1
  have y0_2 := HX2.out.1
  have y1_2 := HX2.out.2
  rw [q1]
  go_wp2_with fail
  refine (has_any s (.slice A xs.length c) b _ (by omega)).mono ?_
  rintro e w3 ⟨rfl, hb⟩
  have HX3 := Lib.hid (HX2.out.below hb)
  have HT3 := Lib.hid (HT2.out.below hb)
  have HB3 := Lib.hid (Below.then HB2.out hb)
  clear hb HX2 HT2 HB2 y0_2 y1_2
  have y0_3 := HX3.out.1
  have y1_3 := HX3.out.2
  rw [q2]
  obtain ⟨m, rfl⟩ := Int.eq_ofNat_of_zero_le ha.1
  obtain ⟨k, rfl⟩ := Int.eq_ofNat_of_zero_le hb.1
  go_wp2_with fail
  refine (flipped_any s _ xs m k _ (HR.out.below HB3.out) (by omega) (by omega) (by omega)).mono ?_
  rintro e w4 ⟨sl', rfl, ho, hb4⟩
  obtain ⟨Y, cy, rfl, -, -, -⟩ := ho.form
  have HT4 := HT3.out.below hb4
  have HB4 := Below.then HB3.out hb4
  have v0 := HT4.1.1
  have v1 := HT4.1.2
  have f0 := HT4.2 0
  have f1 := HT4.2 1
  have hgt := (HT4).gt
  have HOx := Lib.hid ((ho.kept (setCell_grown _ ⟨w.heap.size + 1, 0, none⟩ (.int .i64 s)) (own_ne (fun k hk => (ho.lt k hk).1) (by first | exact (HT1.out).gt | exact (HT0.out).gt | exact (HT2.out).gt | exact (HT3.out).gt | exact (HT4.out).gt | (simp; omega)))).kept (setCell_grown _ ⟨w.heap.size + 1, 1, none⟩ (.slice Y (flipL xs m k).length cy)) (own_ne (fun k hk => (ho.lt k hk).1) (by first | exact (HT1.out).gt | exact (HT0.out).gt | exact (HT2.out).gt | exact (HT3.out).gt | exact (HT4.out).gt | (simp; omega))))
  have HBx := Lib.hid ((HB4.setCell (p := ⟨w.heap.size + 1, 0, none⟩) (by simp) (.int .i64 s)).setCell (p := ⟨w.heap.size + 1, 1, none⟩) (by simp) (.slice Y (flipL xs m k).length cy))
  have R0 : Hid (((w4.setCell ⟨w.heap.size + 1, 0, none⟩ (.int .i64 s)).setCell ⟨w.heap.size + 1, 1, none⟩ (.slice Y (flipL xs m k).length cy)).cell? ⟨w.heap.size + 1, 0, none⟩ = some (.int .i64 s)) := (World.cell?_setCell_other _ _ _ _ (by simp)).trans (World.cell?_setCell_same _ _ _ v0)
  have R1 : Hid (((w4.setCell ⟨w.heap.size + 1, 0, none⟩ (.int .i64 s)).setCell ⟨w.heap.size + 1, 1, none⟩ (.slice Y (flipL xs m k).length cy)).cell? ⟨w.heap.size + 1, 1, none⟩ = some (.slice Y (flipL xs m k).length cy)) := World.cell?_setCell_same _ _ _ ((World.cell?_setCell_other _ _ _ _ (by simp)).trans v1)
  go_wp2
  have r0 := R0.out
  have r1 := R1.out
  refine bodyPost_ret (v := .tuple #[.agg #[.int .i64 s, .slice Y (flipL xs m k).length cy], .bool true]) (by simp only [results, Tryd.results34]; simp [go_sem, r0, r1]) rfl ⟨_, rfl, HOx.out.mono (by first | exact HB0.out.size | exact HB1.out.size | exact HB2.out.size | exact HB3.out.size | exact HB4.out.size), HBx.out⟩
end Go.Proofs.YtbkiedhaacapbaaDoor

namespace Go.Proofs.YtbkiedhaacapbaaDoor
open Go.RowKit Go.Sort
set_option maxRecDepth 100000
theorem xor_nat {S b : Nat} (hS : S < 256) (hb : b < 8) : xorI (S : Int) b = ((S ^^^ 2 ^ b : Nat) : Int) := by
  unfold xorI
  rw [shl_nat b (by omega)]
  have : 2 ^ b < 256 := pow_lt8 hb
  exact i64_xor_nat S (2 ^ b) (by omega) (by omega)
theorem flip_at {s : Int} {xs : List Int} (hp : tourP s xs) {a b : Nat} (ha : a < xs.length) (hb : b < xs.length) (hab : a ≠ b) (x : Nat) (hx : x < xs.length) :
    ∃ S : Nat, (flipL xs a b).getD x 0 = (S : Int) ∧ S < 2 ^ xs.length ∧ ∀ y, S.testBit y = ((bt xs x y) ^^ ((x == a && y == b) || (x == b && y == a))) := by
  have h8 : xs.length ≤ 8 := by have h1 := hp.1; have h2 := hp.2.1; omega
  have hw := fun z (hz : z < xs.length) => tour_wins hp hz
  have hsn : s.toNat = xs.length := by have := hp.2.1; omega
  have pw : ∀ c, c < xs.length → 2 ^ c < 2 ^ xs.length := fun c hc => Nat.pow_lt_pow_right (by decide) hc
  have e1 : (xs.set a (xorI (xs.getD a 0) b)).getD b 0 = xs.getD b 0 := getD_set_other _ hab
  unfold flipL
  rw [e1]
  have wa := hw a ha
  have wb := hw b hb
  rw [hsn] at wa wb
  by_cases h1 : x = b
  · subst h1
    rw [getD_set_same _ (by simp [hx]), wb.1, xor_nat wb.2.2 (by omega)]
    refine ⟨_, rfl, Nat.xor_lt_two_pow wb.2.1 (pw a ha), fun y => ?_⟩
    rw [Nat.testBit_xor, Nat.testBit_two_pow]
    have q : (x == a) = false := by simp; omega
    by_cases e : a = y
    · subst e; simp [q, bt]
    · have : (y == a) = false := by simp; omega
      simp [q, bt, e, this]
  · rw [getD_set_other _ (Ne.symm h1)]
    by_cases h2 : x = a
    · subst h2
      rw [getD_set_same _ hx, wa.1, xor_nat wa.2.2 (by omega)]
      refine ⟨_, rfl, Nat.xor_lt_two_pow wa.2.1 (pw b hb), fun y => ?_⟩
      rw [Nat.testBit_xor, Nat.testBit_two_pow]
      have q : (x == b) = false := by simp; omega
      by_cases e : b = y
      · subst e; simp [q, bt]
      · have : (y == b) = false := by simp; omega
        simp [q, bt, e, this]
    · rw [getD_set_other _ (Ne.symm h2)]
      have wx := hw x hx
      rw [hsn] at wx
      refine ⟨_, wx.1, wx.2.1, fun y => ?_⟩
      have q1 : (x == a) = false := by simp; omega
      have q2 : (x == b) = false := by simp; omega
      simp [q1, q2, bt]
theorem flip_tour {s : Int} {xs : List Int} (hp : tourP s xs) {a b : Nat} (ha : a < xs.length) (hb : b < xs.length) (hab : a ≠ b) : tourP s (flipL xs a b) := by
  have hl := flipL_len xs a b
  have ht := tour_bits hp
  have hbt : ∀ x y, x < xs.length → bt (flipL xs a b) x y = ((bt xs x y) ^^ ((x == a && y == b) || (x == b && y == a))) := fun x y hx => by
    obtain ⟨S, e, -, h⟩ := flip_at hp ha hb hab x hx
    show (winsN (flipL xs a b) x).testBit y = _
    unfold winsN
    rw [e, Int.toNat_natCast]
    exact h y
  refine tour_of_bits hp.1 (by rw [hl]; exact hp.2.1) (fun i hi => ?_) (fun x hx => ?_) (fun x y hx hy hxy => ?_)
  · rw [hl] at hi ⊢
    obtain ⟨S, e, h, -⟩ := flip_at hp ha hb hab i hi
    exact ⟨S, e, h⟩
  · rw [hl] at hx
    rw [hbt x x hx, ht.2.1 x hx]
    have q : ((x == a && x == b) || (x == b && x == a)) = false := by
      rcases e : ((x == a && x == b) || (x == b && x == a)) with _ | _
      · rfl
      · simp at e; omega
    rw [q]; rfl
  · rw [hl] at hx hy
    rw [hbt x y hx, hbt y x hy, ht.2.2 x y hx hy hxy]
    have q : ((y == a && x == b) || (y == b && x == a)) = ((x == a && y == b) || (x == b && y == a)) := by
      rw [Bool.or_comm, Bool.and_comm (y == b), Bool.and_comm (y == a)]
    rw [q]
    cases bt xs y x <;> cases ((x == a && y == b) || (x == b && y == a)) <;> rfl
end Go.Proofs.YtbkiedhaacapbaaDoor

namespace Go.Proofs.YtbkiedhaacapbaaDoor
open Go.RowKit Go.Sort
set_option maxRecDepth 100000
variable {n : Nat} {xs : List Int} {sl : Value} {w : World}
/-- a game reversed -/
theorem flip_btN {n : Nat} {xs : List Int} (hp : tourP n xs) {a b : Nat} (ha : a < n) (hb : b < n) (hab : a ≠ b) {x y : Nat} (hx : x < n) : bt (flipL xs a b) x y = (bt xs x y ^^ ((x == a && y == b) || (x == b && y == a))) := by
  have hl := tour_len hp
  obtain ⟨S, e, -, h⟩ := flip_at hp (a := a) (b := b) (by omega) (by omega) hab x (by omega)
  unfold bt winsN
  rw [e]
  exact h y
theorem cFlipped (hp : tourP n xs) (h : Rd w sl xs) (a b : Nat) (ha : a < n) (hb : b < n) : Calls Tryd.prog 67 #[.agg #[.int .i64 n, sl], .int .i64 a, .int .i64 b] w fun e w' => ∃ A c, e = .returned (.agg #[.int .i64 n, .slice A n c]) ∧ Own w' w.heap.size (.slice A n c) (flipL xs a b) ∧ Below w.heap.size w w' :=
  (flipped_any n sl xs a b w h (by rw [tour_len hp]; have := hp.1; omega) (by rw [tour_len hp]; exact ha) (by rw [tour_len hp]; exact hb)).mono fun e w' ⟨v, h1, h2, h3⟩ => by
    obtain ⟨A, c, rfl, -⟩ := h2.form
    rw [flipL_len, tour_len hp] at h1 h2
    exact ⟨A, c, h1, h2, h3⟩
theorem flip_tourN (hp : tourP n xs) {a b : Nat} (ha : a < n) (hb : b < n) (hab : a ≠ b) : tourP n (flipL xs a b) := flip_tour hp (by rw [tour_len hp]; exact ha) (by rw [tour_len hp]; exact hb) hab
theorem cBeats (hp : tourP n xs) (h : Rd w sl xs) (a b : Nat) (ha : a < n) (hb : b < n) : Calls Tryd.prog 49 #[.agg #[.int .i64 n, sl], .int .i64 a, .int .i64 b] w fun e w' => e = .returned (.bool (bt xs a b)) ∧ Below w.heap.size w w' := by
  have := beats_any n sl xs a b w h (by omega) (by rw [tour_len hp]; omega) (by omega) (by have := hp.1; omega)
  obtain ⟨S, e, -⟩ := (tour_bits hp).1 a (by rw [tour_len hp]; exact ha)
  rwa [Int.toNat_natCast, Int.toNat_natCast, bitI_bt e] at this
theorem cFlipG (hp : tourP n xs) (h : Rd w sl xs) (a b : Nat) (ha : a < n) (hb : b < n) (hab : a ≠ b) : Calls Tryd.prog 34 #[.agg #[.int .i64 n, sl], .int .i64 a, .int .i64 b] w fun e w' => ∃ A c, e = .returned (.tuple #[.agg #[.int .i64 n, .slice A n c], .bool true]) ∧ Own w' w.heap.size (.slice A n c) (flipL xs a b) ∧ Below w.heap.size w w' :=
  (implFlip n sl xs a b w h).mono fun e w' ⟨v, h1, h2, h3⟩ => by
    have hok : flOk n xs a b = true := by
      unfold flOk
      rw [tourB_true.2 hp, show inB (a : Int) 0 ((n : Int) - 1) = true from inB_true.2 ⟨by omega, by omega⟩, show inB (b : Int) 0 ((n : Int) - 1) = true from inB_true.2 ⟨by omega, by omega⟩]
      simp
      omega
    unfold flS at h1
    unfold flL at h2
    rw [hok, if_pos rfl] at h1
    rw [hok, if_pos rfl, Int.toNat_natCast, Int.toNat_natCast] at h2
    obtain ⟨A, c, rfl, -⟩ := h2.form
    rw [flipL_len, tour_len hp] at h1 h2
    exact ⟨A, c, h1, h2, h3⟩
end Go.Proofs.YtbkiedhaacapbaaDoor

namespace Go.Proofs.YtbkiedhaacapbaaDoor
open Go.RowKit Go.Sort
set_option maxRecDepth 100000
variable {n : Nat} {xs : List Int} {sl : Value} {w : World}
/-- the reversed tour -/
def trnL (xs : List Int) (n : Nat) : List Int := toL (fun a b => bt xs b a) n
set_option maxHeartbeats 1000000 in
theorem tt1_any (hp : tourP n xs) (W : World) (hr : Rd W sl xs) (gt : Nat) (ht : TBox W gt n sl) (a b : Nat) (ha : a < n) (hb : b < n) :
    Calls Tryd.prog 61 #[.int .i64 a, .int .i64 b, .pointer (some ⟨gt, 0, none⟩)] W fun e w' => e = .returned (.bool (bt xs b a)) ∧ Below W.heap.size W w' := by
  have HR := Lib.hid hr
  have HP := Lib.hid hp
  have y0 := ht.1
  have y1 := ht.2
  clear hr hp ht
  go_enter Tryd.func61, Tryd.ntmps61
  go_wp2_with fail
  refine (cBeats HP.out HR.out b a hb ha).mono ?_
  rintro e w1 ⟨rfl, hb⟩
  have HB1 := Lib.hid hb
  clear hb
  go_wp2
  go_ret
  exact ⟨rfl, HB1.out⟩
theorem enters_tt1 : Enters 61 := fun _ _ => by kernel_rfl
set_option maxHeartbeats 2000000 in
theorem cTurn (hp : tourP n xs) (h : Rd w sl xs) : Calls Tryd.prog 26 #[.agg #[.int .i64 n, sl]] w fun e w' => ∃ Y cy, e = .returned (.tuple #[.agg #[.int .i64 n, .slice Y n cy], .bool true]) ∧ Own w' w.heap.size (.slice Y n cy) (trnL xs n) ∧ Below w.heap.size w w' := by
  have HR := Lib.hid h
  have HP := Lib.hid hp
  have q0 : tourB n xs = true := tourB_true.2 hp
  have hln := tour_len hp
  have h8 : n ≤ 8 := by have := hp.1; omega
  have h1 : 1 ≤ n := by have := hp.1; omega
  obtain ⟨A, c, rfl, -, hcm, -⟩ := h
  unfold maxLen at hcm
  rw [hln] at HR ⊢
  clear hp hln
  go_enter Tryd.func26, Tryd.ntmps26
  go_wp2_with fail
  have b0 := (below_alloc1 w (.cells #[.int .i64 n, .slice A n c] 25)).alloc (by simp) (.cells #[.int .i64 0, .slice none 0 0] 25)
  have x0 := (TBox.new w n (.slice A n c) 25).below (below_alloc1 _ (.cells #[.int .i64 0, .slice none 0 0] 25))
  have t0 := BoxF.new (w.alloc (.cells #[.int .i64 n, .slice A n c] 25)) 0 (.slice none 0 0) 25
  simp only [World.size_alloc] at t0
  generalize (w.alloc (.cells #[.int .i64 n, .slice A n c] 25)).alloc (.cells #[.int .i64 0, .slice none 0 0] 25) = w0 at *
  have HX0 := Lib.hid x0
  have HB0 := Lib.hid b0
  have HT0 := Lib.hid t0
  clear x0 b0 t0
  have y0_0 := HX0.out.1
  have y1_0 := HX0.out.2
  go_wp2_with fail
  refine (implTourOk n _ xs _ (HR.out.below HB0.out)).mono ?_
  rintro e w1 ⟨rfl, hb⟩
  have HX1 := Lib.hid (HX0.out.below hb)
  have HT1 := Lib.hid (HT0.out.below hb)
  have HB1 := Lib.hid (Below.then HB0.out hb)
  clear hb HX0 HT0 HB0 y0_0 y1_0
  have y0_1 := HX1.out.1
  have y1_1 := HX1.out.2
  rw [q0]
  go_wp2_with fail
  refine (tourOf_any n h1 h8 61 #[.pointer (some ⟨w.heap.size, 0, none⟩)] enters_tt1 (fun a b => bt xs b a) w1 (fun a b ha hb W hW => tt1_any HP.out W (HR.out.below (Below.then HB1.out hW)) w.heap.size (HX1.out.below hW) a b ha hb)).mono ?_
  rintro e w5 ⟨sl', rfl, ho, hb5⟩
  obtain ⟨Y, cy, rfl, -, -, -⟩ := ho.form
  rw [toL_len] at *
  have hT5 := HT1.out.below hb5
  have hgt := HT1.out.gt
  have HB5 := Lib.hid (Below.then HB1.out hb5)
  have v0 := hT5.1.1
  have v1 := hT5.1.2
  have f0 := hT5.2 0
  have f1 := hT5.2 1
  have HOx := Lib.hid ((ho.kept (setCell_grown _ ⟨w.heap.size + 1, 0, none⟩ (.int .i64 n)) (own_ne (fun k hk => (ho.lt k hk).1) hgt)).kept (setCell_grown _ ⟨w.heap.size + 1, 1, none⟩ (.slice Y n cy)) (own_ne (fun k hk => (ho.lt k hk).1) hgt))
  have HBx := Lib.hid ((HB5.out.setCell (p := ⟨w.heap.size + 1, 0, none⟩) (show w.heap.size ≤ w.heap.size + 1 by omega) (.int .i64 n)).setCell (p := ⟨w.heap.size + 1, 1, none⟩) (show w.heap.size ≤ w.heap.size + 1 by omega) (.slice Y n cy))
  have R0 : Hid (((w5.setCell ⟨w.heap.size + 1, 0, none⟩ (.int .i64 n)).setCell ⟨w.heap.size + 1, 1, none⟩ (.slice Y n cy)).cell? ⟨w.heap.size + 1, 0, none⟩ = some (.int .i64 n)) := (World.cell?_setCell_other _ _ _ _ (by simp)).trans (World.cell?_setCell_same _ _ _ v0)
  have R1 : Hid (((w5.setCell ⟨w.heap.size + 1, 0, none⟩ (.int .i64 n)).setCell ⟨w.heap.size + 1, 1, none⟩ (.slice Y n cy)).cell? ⟨w.heap.size + 1, 1, none⟩ = some (.slice Y n cy)) := World.cell?_setCell_same _ _ _ ((World.cell?_setCell_other _ _ _ _ (by simp)).trans v1)
  have HSZ := HB1.out.size
  clear ho hb5 hT5
  go_wp2
  have r0 := R0.out
  have r1 := R1.out
  refine bodyPost_ret (v := .tuple #[.agg #[.int .i64 n, .slice Y n cy], .bool true]) (by simp only [results, Tryd.results26]; simp [go_sem, r0, r1]) rfl ⟨Y, cy, rfl, HOx.out.mono HSZ, HBx.out⟩
theorem turn_bt {p : Nat → Nat → Bool} {a b : Nat} (ha : a < n) (hb : b < n) : bt (toL p n) a b = toQ p a b := by
  have e : (toL p n).getD a 0 = ((setOf (toQ p a) n : Nat) : Int) := by unfold toL; simp [List.getD_eq_getElem?_getD, ha]
  unfold bt winsN
  rw [e, Int.toNat_natCast, testBit_setOf, decide_eq_true hb, Bool.true_and]
theorem trnL_bt (hp : tourP n xs) {a b : Nat} (ha : a < n) (hb : b < n) : bt (trnL xs n) a b = bt xs b a := by
  unfold trnL
  rw [turn_bt ha hb]
  unfold toQ
  by_cases e : a = b
  · subst e; rw [(tr_bit hp ha ha).1 rfl]; simp
  · rw [show (a == b) = false by simpa using e]; rfl
theorem trnL_tour (hp : tourP n xs) : tourP n (trnL xs n) := by
  have hl : (trnL xs n).length = n := toL_len _ _
  refine tour_of_bits hp.1 (by rw [hl]) (fun i hi => ?_) (fun a ha => ?_) (fun a b ha hb hab => ?_)
  · rw [hl] at hi ⊢
    exact ⟨setOf (toQ (fun a b => bt xs b a) i) n, by unfold trnL toL; simp [List.getD_eq_getElem?_getD, hi], setOf_lt _ _⟩
  · rw [hl] at ha
    rw [trnL_bt hp ha ha, (tr_bit hp ha ha).1 rfl]
  · rw [hl] at ha hb
    rw [trnL_bt hp ha hb, trnL_bt hp hb ha]
    exact (tr_bit hp hb ha).2 (Ne.symm hab)
end Go.Proofs.YtbkiedhaacapbaaDoor

namespace Go.Proofs.YtbkiedhaacapbaaDoor
open Go.RowKit Go.Sort
set_option maxRecDepth 100000
variable {n : Nat} {sl sl2 : Value} {xs ys : List Int} {w : World}
/-- how many games differ -/
def dfK (xs ys : List Int) (n k : Nat) : Nat := ((List.range k).map fun a => (List.range n).countP fun b => bt xs a b && !bt ys a b).sum
theorem dfK_succ (xs ys : List Int) (n k : Nat) : dfK xs ys n (k + 1) = dfK xs ys n k + (List.range n).countP fun b => bt xs k b && !bt ys k b := by
  unfold dfK
  rw [List.range_succ, List.map_append, List.sum_append]
  simp
theorem dfK_le (xs ys : List Int) (n k : Nat) : dfK xs ys n k ≤ k * n := by
  induction k with
  | zero => simp [dfK]
  | succ k ih =>
    rw [dfK_succ, Nat.succ_mul]
    have : (List.range n).countP (fun b => bt xs k b && !bt ys k b) ≤ n := Nat.le_trans List.countP_le_length (by rw [List.length_range]; exact Nat.le_refl _)
    omega
theorem df_pop {a : Nat} (hp : tourP n xs) (ha : a < n) : popN 8 (less (winsN xs a) (winsN ys a)) = (List.range n).countP fun b => bt xs a b && !bt ys a b := by
  have h8 : n ≤ 8 := by have := hp.1; omega
  have hw := (tour_wins hp (a := a) (by rw [tour_len hp]; exact ha)).2
  have hn : winsN xs a < 2 ^ n := by have := hw.1; rwa [show ((n : Int)).toNat = n from rfl] at this
  have hlt := less_lt (b := winsN ys a) hn
  rw [pop_mem (Nat.lt_of_lt_of_le hlt (pow_le h8)), memN_top h8 (Nat.div_eq_of_lt hlt)]
  unfold memN
  rw [← List.countP_eq_length_filter]
  refine List.countP_congr fun b _ => ?_
  rw [testBit_less]
set_option maxHeartbeats 4000000 in
theorem cDiff (hp : tourP n xs) (h : Rd w sl xs) (hp2 : tourP n ys) (h2 : Rd w sl2 ys) :
    Calls Tryd.prog 28 #[.agg #[.int .i64 n, sl], .agg #[.int .i64 n, sl2]] w fun e w' => e = .returned (.int .i64 (dfK xs ys n n : Nat)) ∧ Below w.heap.size w w' := by
  have HR := Lib.hid h
  obtain ⟨g, off, c, rfl, hm, hg, hx⟩ := tour_cells h hp
  have HR2 := Lib.hid h2
  obtain ⟨g2, off2, c2, rfl, hm2, hg2, hx2⟩ := tour_cells h2 hp2
  rw [tour_len hp] at HR hx ⊢
  rw [tour_len hp2] at HR2 hx2 ⊢
  unfold maxLen at hm hm2
  have h1 : 1 ≤ n := by have := hp.1; omega
  have h8 : n ≤ 8 := by have := hp.1; omega
  have HX := Lib.hid (fun k (hk : k < n) => (show w.cell? ⟨g, off + k, none⟩ = some (.int .i64 (winsN xs k : Nat)) from by
    exact hx k hk))
  have HX2 := Lib.hid (fun k (hk : k < n) => (show w.cell? ⟨g2, off2 + k, none⟩ = some (.int .i64 (winsN ys k : Nat)) from by
    exact hx2 k hk))
  have HW := Lib.hid (fun k (hk : k < n) => (tour_wins hp (a := k) (by rw [tour_len hp]; exact hk)).2.2)
  have HW2 := Lib.hid (fun k (hk : k < n) => (tour_wins hp2 (a := k) (by rw [tour_len hp2]; exact hk)).2.2)
  have HDP := Lib.hid (fun k (hk : k < n) => df_pop (ys := ys) hp hk)
  have HDS := Lib.hid (fun k => dfK_succ xs ys n k)
  have HDL := Lib.hid (fun k => dfK_le xs ys n k)
  have HP := Lib.hid hp
  have HP2 := Lib.hid hp2
  clear hp hp2 hx hx2 h h2
  go_enter Tryd.func28, Tryd.ntmps28
  have bx := (below_alloc1 w (.cells #[.int .i64 n, .slice (some ⟨g, off, none⟩) n c] 25)).alloc (by simp) (.cells #[.int .i64 n, .slice (some ⟨g2, off2, none⟩) n c2] 25)
  have tx := (TBox.new w n (.slice (some ⟨g, off, none⟩) n c) 25).below (below_alloc1 _ (.cells #[.int .i64 n, .slice (some ⟨g2, off2, none⟩) n c2] 25))
  have tx2 := TBox.new (w.alloc (.cells #[.int .i64 n, .slice (some ⟨g, off, none⟩) n c] 25)) n (.slice (some ⟨g2, off2, none⟩) n c2) 25
  simp only [World.size_alloc] at tx2
  go_wp2_with fail
  generalize (w.alloc (.cells #[.int .i64 n, .slice (some ⟨g, off, none⟩) n c] 25)).alloc (.cells #[.int .i64 n, .slice (some ⟨g2, off2, none⟩) n c2] 25) = w0 at *
  have HB0 := Lib.hid bx
  have HA0 := Lib.hid tx
  have HC0 := Lib.hid tx2
  clear bx tx tx2
  have y0 := HA0.out.1
  have y1 := HA0.out.2
  have x0 := HC0.out.1
  have x1 := HC0.out.2
  go_wp2_with fail
  refine (implTourOk n _ xs _ (HR.out.below HB0.out)).mono ?_
  rintro e w1 ⟨rfl, hb1⟩
  rw [tourB_true.2 HP.out]
  have HA1 := Lib.hid (HA0.out.below hb1)
  have HC1 := Lib.hid (HC0.out.below hb1)
  have HB1 := Lib.hid (Below.then HB0.out hb1)
  clear hb1 y0 y1 x0 x1 HA0 HC0 HB0
  have y0 := HA1.out.1
  have y1 := HA1.out.2
  have x0 := HC1.out.1
  have x1 := HC1.out.2
  go_wp2_with fail
  refine (implTourOk n _ ys _ (HR2.out.below HB1.out)).mono ?_
  rintro e w2 ⟨rfl, hb2⟩
  rw [tourB_true.2 HP2.out]
  have HA2 := Lib.hid (HA1.out.below hb2)
  have HC2 := Lib.hid (HC1.out.below hb2)
  have HB2 := Lib.hid (Below.then HB1.out hb2)
  clear hb2 y0 y1 x0 x1 HA1 HC1 HB1
  have y0 := HA2.out.1
  have y1 := HA2.out.2
  have x0 := HC2.out.1
  have x1 := HC2.out.2
  go_wp2
  go_loop [5, 26] (fun t5 t26 => ∃ k : Nat, k ≤ n ∧ t26 = .int .i64 k ∧ t5 = .int .i64 (dfK xs ys n k : Nat)) (fun _ t26 => n - (intOf t26).toNat)
  case atStart => exact ⟨0, by omega, rfl, rfl⟩
  case round =>
    obtain ⟨k, hk, rfl, rfl⟩ := hrel
    by_cases hlt : k < n
    · have z0 := (HB2.out.cell (by exact hg)).trans (HX.out k hlt)
      have z1 := (HB2.out.cell (by exact hg2)).trans (HX2.out k hlt)
      have hw := HW.out k hlt
      have hw2 := HW2.out k hlt
      have hpop := HDP.out k hlt
      have HSU := Lib.hid (HDS.out k)
      have hle := HDL.out k
      have hkn : k * n ≤ 8 * 8 := Nat.mul_le_mul (by omega) h8
      have hle2 := popN_le 8 (less (winsN xs k) (winsN ys k))
      have HPO := Lib.hid hpop
      have hand := i64_andNot_nat (winsN xs k) (winsN ys k) (by omega) (by omega)
      have hl256 : less (winsN xs k) (winsN ys k) < 256 := less_lt (n := 8) (by omega)
      clear hpop
      generalize less (winsN xs k) (winsN ys k) = L at *
      generalize winsN xs k = X at *
      generalize winsN ys k = Y at *
      go_wp2_with fail
      refine (ones_any L _ hl256).mono ?_
      rintro e w3 ⟨rfl, rfl⟩
      rw [HPO.out] at hle2 ⊢
      go_wp2
      go_round
      case rel => exact ⟨k + 1, by omega, by go_num, by rw [HSU.out]; go_num⟩
      case measure => simp [intOf]; omega
    · obtain rfl : k = n := by omega
      go_wp2
      go_ret
      exact ⟨rfl, HB2.out⟩
end Go.Proofs.YtbkiedhaacapbaaDoor

namespace Go.Proofs.YtbkiedhaacapbaaDoor
open Go.RowKit Go.Sort
set_option maxRecDepth 100000
section
variable {n : Nat} {xs ys : List Int}
theorem sc_total (hp : tourP n xs) : 2 * sumN (fun a => scN xs a) n = (n : Int) * n - n := by
  have e1 : sumN (fun a => scN xs a) n = sumN (fun b => (n : Int) - 1 - scN xs b) n := by
    rw [sumN_congr (fun a ha => sc_sum hp ha), sumN_swap]
    exact sumN_congr fun b hb => by rw [by_sum hp hb]
  have e2 : sumN (fun b => (n : Int) - 1 - scN xs b) n = (n : Int) * ((n : Int) - 1) - sumN (fun a => scN xs a) n := by
    rw [sumN_sub (fun _ => (n : Int) - 1) (fun b => scN xs b), sumN_const]
  rw [Int.mul_sub, Int.mul_one] at e2
  generalize sumN (fun a => scN xs a) n = S at *
  generalize (n : Int) * n = M at *
  omega
theorem sc_list (hp : tourP n xs) : (scL xs n).sum = (gmP n n : Nat) := by
  have h1 := sc_total hp
  have h2 := gmP_full n
  have e : (scL xs n).sum = sumN (fun a => scN xs a) n := by unfold scL; exact map_sumN _ _
  rw [e]
  have e3 : ((n * n : Nat) : Int) = (n : Int) * n := by push_cast; rfl
  omega
theorem sc_turn (hp : tourP n xs) {a : Nat} (ha : a < n) : scN (trnL xs n) a = n - 1 - scN xs a := by
  rw [sc_sum (trnL_tour hp) ha, ← by_sum hp ha]
  exact sumN_congr fun b hb => by rw [trnL_bt hp ha hb]
theorem rn_tourN (hp : tourP n xs) {q : List Int} (hq : PermP n q) : tourP n (rnL xs q) := rn_tour hp (by rw [tour_len hp]; exact hq)
theorem sc_rename (hp : tourP n xs) {q : List Int} (hq : PermP n q) {a : Nat} (ha : a < n) : scN (rnL xs q) (nmN q a) = scN xs a := by
  rw [sc_sum (rn_tourN hp hq) (nm_val hq ha).2, sc_sum hp ha, sum_at (f := nmN q) (fun i hi => (nm_val hq hi).2) (fun i k hi hk e => nm_inj hq hi hk e)]
  exact sumN_congr fun b hb => by rw [rn_bit (tour_len hp) hq ha hb]
theorem df_sum (xs ys : List Int) (n k : Nat) : (dfK xs ys n k : Int) = sumN (fun a => sumN (fun b => if (bt xs a b && !bt ys a b) = true then 1 else 0) n) k := by
  unfold dfK
  rw [sum_nat, map_sumN]
  refine sumN_congr fun a _ => ?_
  rw [← map_sumN]
  generalize List.range n = l
  induction l with
  | nil => rfl
  | cons b l ih =>
    rw [List.map_cons, List.sum_cons, ← ih, List.countP_cons]
    split <;> simp <;> omega
theorem df_turn (hp : tourP n xs) : dfK xs (trnL xs n) n n = gmP n n := by
  have h1 := sc_total hp
  have h2 := gmP_full n
  have e : (dfK xs (trnL xs n) n n : Int) = sumN (fun a => scN xs a) n := by
    rw [df_sum]
    refine sumN_congr fun a ha => ?_
    rw [sc_sum hp ha]
    refine sumN_congr fun b hb => ?_
    rw [trnL_bt hp ha hb]
    by_cases e : a = b
    · subst e; rw [(tr_bit hp ha ha).1 rfl]; rfl
    · rw [(tr_bit hp ha hb).2 e]
      cases bt xs b a <;> rfl
  have e3 : ((n * n : Nat) : Int) = (n : Int) * n := by push_cast; rfl
  omega
theorem df_one {u v : Nat} (hu : u < n) (hv : v < n) (h : ∀ x y, x < n → y < n → ((bt xs x y && !bt ys x y) = true ↔ x = u ∧ y = v)) : dfK xs ys n n = 1 := by
  have e : (dfK xs ys n n : Int) = 1 := by
    rw [df_sum, sumN_one hu (fun x hx hne => sumN_zero' fun y hy => if_neg fun q => hne ((h x y hx hy).1 q).1), sumN_one hv (fun y hy hne => if_neg fun q => hne ((h u y hu hy).1 q).2), if_pos ((h u v hu hv).2 ⟨rfl, rfl⟩)]
  omega
theorem df_flip (hp : tourP n xs) {a b : Nat} (ha : a < n) (hb : b < n) (hab : a ≠ b) : dfK (flipL xs a b) xs n n = 1 := by
  have hne := (tr_bit hp ha hb).2 hab
  rcases q : bt xs a b with _ | _
  · have q2 : bt xs b a = true := by rw [q] at hne; simpa using hne.symm
    refine df_one ha hb fun x y hx hy => ?_
    rw [flip_btN hp ha hb hab hx]
    constructor
    · intro h
      by_cases e1 : x = a ∧ y = b
      · exact e1
      · by_cases e2 : x = b ∧ y = a
        · obtain ⟨rfl, rfl⟩ := e2
          rw [q2] at h; simp at h
        · have : ((x == a && y == b) || (x == b && y == a)) = false := by
            rw [Bool.or_eq_false_iff]
            constructor <;> (rw [Bool.and_eq_false_iff]; simp; omega)
          rw [this] at h
          cases bt xs x y <;> simp at h
    · rintro ⟨rfl, rfl⟩
      rw [q]; simp
  · have q2 : bt xs b a = false := by rw [q] at hne; simpa using hne.symm
    refine df_one hb ha fun x y hx hy => ?_
    rw [flip_btN hp ha hb hab hx]
    constructor
    · intro h
      by_cases e1 : x = b ∧ y = a
      · exact e1
      · by_cases e2 : x = a ∧ y = b
        · obtain ⟨rfl, rfl⟩ := e2
          rw [q] at h; simp at h
        · have : ((x == a && y == b) || (x == b && y == a)) = false := by
            rw [Bool.or_eq_false_iff]
            constructor <;> (rw [Bool.and_eq_false_iff]; simp; omega)
          rw [this] at h
          cases bt xs x y <;> simp at h
    · rintro ⟨rfl, rfl⟩
      rw [q2]; simp
theorem flip_back (hp : tourP n xs) {a b : Nat} (ha : a < n) (hb : b < n) (hab : a ≠ b) : flipL (flipL xs a b) b a = xs := by
  have hf : tourP n (flipL xs a b) := flip_tourN hp ha hb hab
  refine tour_ext (flip_tourN hf hb ha (Ne.symm hab)) hp fun x y hxy hy => ?_
  rw [flip_btN hf hb ha (Ne.symm hab) (by omega), flip_btN hp ha hb hab (by omega)]
  have : ((x == b && y == a) || (x == a && y == b)) = ((x == a && y == b) || (x == b && y == a)) := Bool.or_comm _ _
  rw [this]
  cases bt xs x y <;> cases ((x == a && y == b) || (x == b && y == a)) <;> rfl
theorem turn_back (hp : tourP n xs) : trnL (trnL xs n) n = xs :=
  tour_ext (trnL_tour (trnL_tour hp)) hp fun a b hab hb => by rw [trnL_bt (trnL_tour hp) (by omega) hb, trnL_bt hp hb (by omega)]
end
end Go.Proofs.YtbkiedhaacapbaaDoor

namespace Go.Proofs.YtbkiedhaacapbaaDoor
open Go.RowKit Go.Sort

end Go.Proofs.YtbkiedhaacapbaaDoor

namespace Go.Proofs.YtbkiedhaacapbaaDoor
open Go.RowKit Go.Sort
set_option maxRecDepth 100000
theorem pow_lt_big {k : Nat} (h : k ≤ 50) : 2 ^ k ≤ 1125899906842624 := Nat.le_trans (Nat.pow_le_pow_right (by decide) h) (by decide)
theorem bit_num (W b : Nat) : bits .and .i64 ((W : Int) / 2 ^ b) 1 = ((W.testBit b).toNat : Int) := by
  rw [i64_and_one]
  have : (W : Int) / 2 ^ b % 2 = ((W / 2 ^ b % 2 : Nat) : Int) := by simp
  rw [this, Nat.testBit_eq_decide_div_mod_eq]
  rcases Nat.mod_two_eq_zero_or_one (W / 2 ^ b) with h | h <;> rw [h] <;> rfl
set_option maxHeartbeats 4000000 in
theorem code_any (n : Nat) (sl : Value) (xs : List Int) (w : World) (h : Rd w sl xs) (hp : tourP n xs) (h6 : n ≤ 6) :
    Calls Tryd.prog 58 #[.agg #[.int .i64 n, sl]] w fun e w' => e = .returned (.int .i64 (codeN xs : Nat)) ∧ Below w.heap.size w w' := by
  obtain ⟨g, off, c, rfl, hcm, hg, hx⟩ := tour_cells h hp
  unfold maxLen at hcm
  have hp1 := hp.1
  have hpl := hp.2.1
  have HX := Lib.hid hx
  have HP := Lib.hid hp
  generalize hln : xs.length = m at *
  obtain rfl : m = n := by omega
  have HL := Lib.hid hln
  have HC : Hid (codeN xs = cdAll xs m m 0 0) := by unfold Hid codeN; rw [hln]
  clear hx hp hln hpl
  go_enter Tryd.func58, Tryd.ntmps58
  go_wp2_with fail
  have b0 := below_alloc1 w (.cells #[.int .i64 m, .slice (some ⟨g, off, none⟩) m c] 25)
  have x0 := TBox.new w m (.slice (some ⟨g, off, none⟩) m c) 25
  generalize w.alloc (.cells #[.int .i64 m, .slice (some ⟨g, off, none⟩) m c] 25) = w0 at *
  have HX0 := Lib.hid x0
  have HB0 := Lib.hid b0
  clear x0 b0
  have y0_0 := HX0.out.1
  have y1_0 := HX0.out.2
  clear y0_0 y1_0
  have HX1 : Hid (∀ j, j < m → w0.cell? ⟨g, off + j, none⟩ = some (.int .i64 (winsN xs j))) := fun j hj => (HB0.out.cell (p := ⟨g, off + j, none⟩) hg).trans (HX.out j hj)
  have y0 := HX0.out.1
  have y1 := HX0.out.2
  go_wp2_with fail
  go_loop [3, 10] (fun v i => ∃ (a cc : Nat), a ≤ m ∧ i = .int .i64 a ∧ v = .int .i64 cc ∧ Hid (cdAll xs m (m - a) a cc = codeN xs) ∧ Hid (cc < 2 ^ (8 * a))) (fun _ i => m - (intOf i).toNat)
  case atStart => exact ⟨0, 0, by omega, rfl, rfl, HC.out.symm, by simp [Hid]⟩
  case round =>
    obtain ⟨a, cc, ha, rfl, rfl, HA, HB⟩ := hrel
    by_cases hlt : a < m
    · have hxa := HX1.out a hlt
      have HRW : Hid (cdAll xs m (m - a) a cc = cdAll xs m (m - (a + 1)) (a + 1) (cdRow xs a (m - (a + 1)) (a + 1) cc)) := by
        unfold Hid; rw [show m - a = (m - (a + 1)) + 1 by omega]; rfl
      have hW := (tour_wins HP.out (show a < xs.length by rw [HL.out]; exact hlt)).2.2
      have HA2 : Hid (cdAll xs m (m - (a + 1)) (a + 1) (cdRow xs a (m - (a + 1)) (a + 1) cc) = codeN xs) := by unfold Hid; rw [← HRW.out]; exact HA.out
      have HBT : Hid (∀ b, bt xs a b = (winsN xs a).testBit b) := fun _ => rfl
      clear HRW
      generalize winsN xs a = W at *
      have hc0 : cc ≤ 1125899906842624 := Nat.le_of_lt (Nat.lt_of_lt_of_le HB.out (pow_lt_big (by omega)))
      go_wp2_with fail
      go_loop [3, 6] (fun v i => ∃ (b c2 : Nat), a + 1 ≤ b ∧ b ≤ m ∧ i = .int .i64 b ∧ v = .int .i64 c2 ∧ Hid (cdAll xs m (m - (a + 1)) (a + 1) (cdRow xs a (m - b) b c2) = codeN xs) ∧ Hid (c2 < 2 ^ (8 * a + b))) (fun _ i => m - (intOf i).toNat)
      case atStart => exact ⟨a + 1, cc, Nat.le_refl _, hlt, by go_num, rfl, HA2.out, Nat.lt_of_lt_of_le HB.out (Nat.pow_le_pow_right (by decide) (by omega))⟩
      case round =>
        obtain ⟨b, c2, hb1, hb, rfl, rfl, HD, HE⟩ := hrel
        have hc2 : c2 ≤ 1125899906842624 := Nat.le_of_lt (Nat.lt_of_lt_of_le HE.out (pow_lt_big (by omega)))
        by_cases hbm : b < m
        · have hbn := bit_num W b
          have h01 := toNat_le1 (W.testBit b)
          have HRO : Hid (cdRow xs a (m - b) b c2 = cdRow xs a (m - (b + 1)) (b + 1) (2 * c2 + (W.testBit b).toNat)) := by
            unfold Hid; rw [show m - b = (m - (b + 1)) + 1 by omega, cdRow, HBT.out]
          have HE2 : Hid (2 * c2 + (W.testBit b).toNat < 2 ^ (8 * a + (b + 1))) := by
            have := HE.out
            unfold Hid
            rw [show 8 * a + (b + 1) = (8 * a + b) + 1 by omega, Nat.pow_succ]; omega
          have HD2 : Hid (cdAll xs m (m - (a + 1)) (a + 1) (cdRow xs a (m - (b + 1)) (b + 1) (2 * c2 + (W.testBit b).toNat)) = codeN xs) := by unfold Hid; rw [← HRO.out]; exact HD.out
          clear HRO
          generalize (W.testBit b).toNat = t at *
          go_wp2
          go_round
          case rel => exact ⟨b + 1, 2 * c2 + t, by omega, by omega, by go_num, by go_num, HD2.out, HE2.out⟩
          case measure => simp [intOf]; omega
        · obtain rfl : b = m := by omega
          have HD2 : Hid (cdAll xs b (b - (a + 1)) (a + 1) c2 = codeN xs) := by have := HD.out; rw [Nat.sub_self] at this; exact this
          have HE2 : Hid (c2 < 2 ^ (8 * (a + 1))) := Nat.lt_of_lt_of_le HE.out (Nat.pow_le_pow_right (by decide) (by omega))
          go_wp2
          go_round
          case rel => exact ⟨a + 1, c2, by omega, by go_num, rfl, HD2.out, HE2.out⟩
          case measure => simp [intOf]; omega
    · obtain rfl : a = m := by omega
      have HF : Hid (cc = codeN xs) := by have := HA.out; rw [Nat.sub_self] at this; exact this
      go_wp2
      go_ret
      exact ⟨ret_int (by rw [HF.out]), HB0.out⟩
end Go.Proofs.YtbkiedhaacapbaaDoor

namespace Go.Proofs.YtbkiedhaacapbaaDoor
open Go.RowKit Go.Sort

/-- the i-th of a list goes on a way -/
def wayAt (s : Int) (xs ys : List Int) (i : Nat) : Bool := inB (ys.getD i 0) 0 (s - 1) && (!(containsI (ys.take i) (ys.getD i 0)) && (i == 0 || bitI (xs.getD (ys.getD (i - 1) 0).toNat 0) (ys.getD i 0).toNat))
def wayK (s : Int) (xs ys : List Int) (k : Nat) : Bool := (List.range k).all (wayAt s xs ys)
noncomputable def wayB (s : Int) (xs ys : List Int) : Bool := tourB s xs && wayK s xs ys ys.length
theorem wayK_true {s : Int} {xs ys : List Int} {k : Nat} : wayK s xs ys k = true ↔ ∀ i, i < k → wayAt s xs ys i = true := by simp [wayK]
theorem wayK_no {s : Int} {xs ys : List Int} {k n : Nat} (hk : k < n) (h : wayAt s xs ys k = false) : wayK s xs ys n = false := by
  rcases hq : wayK s xs ys n with _ | _
  · rfl
  · have := wayK_true.1 hq k hk; rw [h] at this; cases this
theorem Rd.take_ {w : World} {A : Option Addr} {n c : Nat} {ys : List Int} (h : Rd w (.slice A n c) ys) (k : Nat) (hk : k ≤ ys.length) : Rd w (.slice A k c) (ys.take k) := by
  obtain ⟨A', c', e, hl, hm, hc⟩ := h
  injection e with e1 e2 e3
  subst e1
  subst e3
  have hl2 : (ys.take k).length = k := by rw [List.length_take]; omega
  refine ⟨A, c, by rw [hl2], by omega, hm, fun h0 => ?_⟩
  obtain ⟨g, off, hA, hg, hx⟩ := hc (by omega)
  refine ⟨g, off, hA, hg, fun j hj => ?_⟩
  rw [hx j (by omega)]
  congr 2
  simp [List.getD_eq_getElem?_getD, show j < k by omega]
theorem wayAt_parts {s : Int} {xs ys : List Int} {i : Nat} (h : wayAt s xs ys i = true) : (0 ≤ ys.getD i 0 ∧ ys.getD i 0 ≤ s - 1) ∧ ys.getD i 0 ∉ ys.take i := by
  unfold wayAt containsI at h
  rw [Bool.and_eq_true, Bool.and_eq_true] at h
  exact ⟨inB_true.1 h.1, by simpa using h.2.1⟩
theorem way_nodup {s : Int} {xs ys : List Int} {k : Nat} (hk : k ≤ ys.length) (h : ∀ j, j < k → wayAt s xs ys j = true) : (ys.take k).Nodup ∧ ∀ y ∈ ys.take k, 0 ≤ y ∧ y ≤ s - 1 := by
  induction k with
  | zero => simp
  | succ k ih =>
    have ih := ih (by omega) (fun j hj => h j (by omega))
    have h1 := wayAt_parts (h k (by omega))
    have e : ys.getD k 0 = ys[k] := by simp [show k < ys.length by omega]
    rw [e] at h1
    rw [List.take_succ_eq_append_getElem (by omega)]
    refine ⟨List.nodup_append.2 ⟨ih.1, by simp, fun a ha b hb => ?_⟩, fun y hy => ?_⟩
    · rw [List.mem_singleton] at hb
      subst hb
      exact fun e => h1.2 (e ▸ ha)
    · rw [List.mem_append, List.mem_singleton] at hy
      rcases hy with hy | rfl
      · exact ih.2 y hy
      · exact h1.1
theorem wayB_len {s : Int} {xs ys : List Int} (h : wayB s xs ys = true) : (ys.length : Int) ≤ s := by
  unfold wayB at h
  rw [Bool.and_eq_true] at h
  have h0 := (tourB_true.1 h.1).1
  have hn := way_nodup (Nat.le_refl _) (wayK_true.1 h.2)
  rw [List.take_length] at hn
  obtain ⟨n, rfl⟩ := Int.eq_ofNat_of_zero_le (by omega : 0 ≤ s)
  have := nodup_le n ys hn.1 (fun y hy => by have := hn.2 y hy; omega)
  omega
theorem wayB_long {s : Int} {xs ys : List Int} (h : s < (ys.length : Int)) : wayB s xs ys = false := by
  rcases hq : wayB s xs ys with _ | _
  · rfl
  · have := wayB_len hq; omega
end Go.Proofs.YtbkiedhaacapbaaDoor

