/- FnExactLeastName: the walk of the law. -/
import Derived.Test.YtceeplhkokajhabLeastF
import Derived.Test.YtceeplhkokajhabTourL
import Derived.Test.YtceeplhkokajhabFrame
import Derived.Test.YtceeplhkokajhabMarkR
import Derived.Deep.RegionHeld3
import Derived.Deep.DeepCutAuto
namespace Go.Proofs.Ytceeplhkokajhab
open Go.RowKit
set_option maxRecDepth 100000

set_option maxHeartbeats 2000000 in
theorem lawLeastName (v0 : Value) (w : World) (h0 : TourOpen w v0) :
    Calls Try.prog 5 #[v0] w fun e w' => e = .returned (.bool true) ∧ Below w.heap.size w w' := by
  obtain ⟨s0, x0, ⟨u0, rfl, r0⟩, i0, lo0, hi0⟩ := h0
  have R0 := Lib.hid r0
  have I0 := Lib.hid i0
  obtain ⟨A0, c0, rfl, -, -, -⟩ := r0
  clear i0
  by_cases hn0 : 0 ≤ (1048576 : Int) - (x0.length : Int)
  case neg =>
    go_enter Try.func5, Try.ntmps5
    go_wp2_with fail
    have b1 := below_alloc1 w (.cells #[.int .i64 s0, (.slice A0 x0.length c0)] 24)
    have tpaT_1 := TBox.new w s0 (.slice A0 x0.length c0) 24
    have g1 : w.heap.size < (w.alloc (.cells #[.int .i64 s0, (.slice A0 x0.length c0)] 24)).heap.size := by simp
    generalize w.alloc (.cells #[.int .i64 s0, (.slice A0 x0.length c0)] 24) = w1 at *
    have ya_paT_1 := tpaT_1.1
    have yb_paT_1 := tpaT_1.2
    clear g1
    have bb1 : Below w.heap.size w w1 := b1
    clear b1
    go_wp2_with fail
    refine (szTour_any s0 (.slice A0 x0.length c0) x0 ((1048576 : Int)) _ (R0.out.below bb1) (by omega) (by omega)).mono ?_
    rintro e w2 ⟨rfl, b2⟩
    have bb2 : Below w.heap.size w w2 := Below.then bb1 b2
    have tpaT_2 := tpaT_1.below b2
    have ya_paT_2 := tpaT_2.1
    have yb_paT_2 := tpaT_2.2
    clear tpaT_1 ya_paT_1 yb_paT_1 bb1 b2
    rw [szI_no (by omega)]
    go_wp2_with fail
    go_ret
    exact ⟨rfl, bb2⟩
  go_enter Try.func5, Try.ntmps5
  go_wp2_with fail
  have b1 := below_alloc1 w (.cells #[.int .i64 s0, (.slice A0 x0.length c0)] 24)
  have tpaT_1 := TBox.new w s0 (.slice A0 x0.length c0) 24
  have g1 : w.heap.size < (w.alloc (.cells #[.int .i64 s0, (.slice A0 x0.length c0)] 24)).heap.size := by simp
  generalize w.alloc (.cells #[.int .i64 s0, (.slice A0 x0.length c0)] 24) = w1 at *
  have ya_paT_1 := tpaT_1.1
  have yb_paT_1 := tpaT_1.2
  clear g1
  have bb1 : Below w.heap.size w w1 := b1
  clear b1
  go_wp2_with fail
  refine (szTour_any s0 (.slice A0 x0.length c0) x0 ((1048576 : Int)) _ (R0.out.below bb1) (by omega) (by omega)).mono ?_
  rintro e w2 ⟨rfl, b2⟩
  have bb2 : Below w.heap.size w w2 := Below.then bb1 b2
  have tpaT_2 := tpaT_1.below b2
  have ya_paT_2 := tpaT_2.1
  have yb_paT_2 := tpaT_2.2
  clear tpaT_1 ya_paT_1 yb_paT_1 bb1 b2
  rw [szI_yes (by omega)]
  go_wp2_with fail
  refine (toTour_any s0 (.slice A0 x0.length c0) x0 _ (R0.out.below bb2) (by omega)).mono ?_
  rintro e w3 ⟨y3, rfl, oo3, b3⟩
  obtain ⟨Y3, cy3, rfl, -, -, -⟩ := oo3.form
  have nb_t1_paT := box_old_of tpaT_2 (fun k hk => (oo3.lt k hk).1)
  have ot1_3 : Own w3 w.heap.size (.slice Y3 x0.length cy3) x0 := oo3.mono bb2.size
  clear oo3
  have bb3 : Below w.heap.size w w3 := Below.then bb2 b3
  have tpaT_3 := tpaT_2.below b3
  have ya_paT_3 := tpaT_3.1
  have yb_paT_3 := tpaT_3.2
  clear tpaT_2 ya_paT_2 yb_paT_2 bb2 b3
  go_wp2_with fail
  refine (specLeast s0 (.slice Y3 x0.length cy3) x0 _ ot1_3.rd).mono ?_
  rintro e w4 ⟨y4, rfl, oy4, b4⟩
  obtain ⟨Yy4, cy4, rfl, -, -, -⟩ := oy4.form
  have ap_t1_w0 := apart_of (fun k hk => (ot1_3.lt k hk).2) (fun k hk => (oy4.lt k hk).1)
  have nb_w0_paT := box_old_of tpaT_3 (fun k hk => (oy4.lt k hk).1)
  have ow0_4 : Own w4 w.heap.size (.slice Yy4 (lnL s0 x0).length cy4) (lnL s0 x0) := oy4.mono bb3.size
  clear oy4
  have bb4 : Below w.heap.size w w4 := Below.then bb3 b4
  have ot1_4 := ot1_3.below b4
  have tpaT_4 := tpaT_3.below b4
  have ya_paT_4 := tpaT_4.1
  have yb_paT_4 := tpaT_4.2
  clear ot1_3 tpaT_3 ya_paT_3 yb_paT_3 bb3 b4
  clear ot1_4
  have pre_paT_0 := (tpaT_4.below (below_alloc1 w4 (.cells #[.int .i64 (lnS s0 x0), (.slice Yy4 (lnL s0 x0).length cy4)] 27))).1
  have pre_paT_1 := (tpaT_4.below (below_alloc1 w4 (.cells #[.int .i64 (lnS s0 x0), (.slice Yy4 (lnL s0 x0).length cy4)] 27))).2
  go_wp2_with fail
  have b5 := below_alloc1 w4 (.cells #[.int .i64 (lnS s0 x0), (.slice Yy4 (lnL s0 x0).length cy4)] 27)
  have tbw0_5 := TBox.new w4 (lnS s0 x0) (.slice Yy4 (lnL s0 x0).length cy4) 27
  have nb_w0_bw0 := box_new_of (fun k hk => (ow0_4.lt k hk).2)
  have g5 : w4.heap.size < (w4.alloc (.cells #[.int .i64 (lnS s0 x0), (.slice Yy4 (lnL s0 x0).length cy4)] 27)).heap.size := by simp
  generalize w4.alloc (.cells #[.int .i64 (lnS s0 x0), (.slice Yy4 (lnL s0 x0).length cy4)] 27) = w5 at *
  have ya_bw0_5 := tbw0_5.1
  have yb_bw0_5 := tbw0_5.2
  clear g5
  have bb5 : Below w.heap.size w w5 := Below.then bb4 b5
  have ow0_5 := ow0_4.below b5
  have tpaT_5 := tpaT_4.below b5
  have ya_paT_5 := tpaT_5.1
  have yb_paT_5 := tpaT_5.2
  clear ow0_4 tpaT_4 ya_paT_4 yb_paT_4 bb4 b5
  clear pre_paT_0 pre_paT_1
  go_wp2_with fail
  refine (toTour_any s0 (.slice A0 x0.length c0) x0 _ (R0.out.below bb5) (by omega)).mono ?_
  rintro e w6 ⟨y6, rfl, oo6, b6⟩
  obtain ⟨Y6, cy6, rfl, -, -, -⟩ := oo6.form
  have ap_w0_x0 := apart_of (fun k hk => (ow0_5.lt k hk).2) (fun k hk => (oo6.lt k hk).1)
  have nb_x0_paT := box_old_of tpaT_5 (fun k hk => (oo6.lt k hk).1)
  have nb_x0_bw0 := box_old_of tbw0_5 (fun k hk => (oo6.lt k hk).1)
  have ox0_6 : Own w6 w.heap.size (.slice Y6 x0.length cy6) x0 := oo6.mono bb5.size
  clear oo6
  have bb6 : Below w.heap.size w w6 := Below.then bb5 b6
  have ow0_6 := ow0_5.below b6
  have tpaT_6 := tpaT_5.below b6
  have ya_paT_6 := tpaT_6.1
  have yb_paT_6 := tpaT_6.2
  have tbw0_6 := tbw0_5.below b6
  have ya_bw0_6 := tbw0_6.1
  have yb_bw0_6 := tbw0_6.2
  clear ow0_5 tpaT_5 ya_paT_5 yb_paT_5 tbw0_5 ya_bw0_5 yb_bw0_5 bb5 b6
  have pre_paT_0 := (tpaT_6.below (below_alloc1 w6 (.cells #[.int .i64 s0, (.slice Y6 x0.length cy6)] 27))).1
  have pre_paT_1 := (tpaT_6.below (below_alloc1 w6 (.cells #[.int .i64 s0, (.slice Y6 x0.length cy6)] 27))).2
  have pre_bw0_0 := (tbw0_6.below (below_alloc1 w6 (.cells #[.int .i64 s0, (.slice Y6 x0.length cy6)] 27))).1
  have pre_bw0_1 := (tbw0_6.below (below_alloc1 w6 (.cells #[.int .i64 s0, (.slice Y6 x0.length cy6)] 27))).2
  go_wp2_with fail
  have b7 := below_alloc1 w6 (.cells #[.int .i64 s0, (.slice Y6 x0.length cy6)] 27)
  have tbx0_7 := TBox.new w6 s0 (.slice Y6 x0.length cy6) 27
  have nb_w0_bx0 := box_new_of (fun k hk => (ow0_6.lt k hk).2)
  have nb_x0_bx0 := box_new_of (fun k hk => (ox0_6.lt k hk).2)
  have g7 : w6.heap.size < (w6.alloc (.cells #[.int .i64 s0, (.slice Y6 x0.length cy6)] 27)).heap.size := by simp
  generalize w6.alloc (.cells #[.int .i64 s0, (.slice Y6 x0.length cy6)] 27) = w7 at *
  have ya_bx0_7 := tbx0_7.1
  have yb_bx0_7 := tbx0_7.2
  clear g7
  have bb7 : Below w.heap.size w w7 := Below.then bb6 b7
  have ow0_7 := ow0_6.below b7
  have ox0_7 := ox0_6.below b7
  have tpaT_7 := tpaT_6.below b7
  have ya_paT_7 := tpaT_7.1
  have yb_paT_7 := tpaT_7.2
  have tbw0_7 := tbw0_6.below b7
  have ya_bw0_7 := tbw0_7.1
  have yb_bw0_7 := tbw0_7.2
  clear ow0_6 ox0_6 tpaT_6 ya_paT_6 yb_paT_6 tbw0_6 ya_bw0_6 yb_bw0_6 bb6 b7
  clear pre_paT_0 pre_paT_1 pre_bw0_0 pre_bw0_1
  go_wp2_with fail
  refine (implLeast s0 (.slice Y6 x0.length cy6) x0 _ ox0_7.rd).mono ?_
  rintro e w8 ⟨y8, rfl, oy8, b8⟩
  obtain ⟨Yy8, cy8, rfl, -, -, -⟩ := oy8.form
  have ap_w0_g0 := apart_of (fun k hk => (ow0_7.lt k hk).2) (fun k hk => (oy8.lt k hk).1)
  have ap_x0_g0 := apart_of (fun k hk => (ox0_7.lt k hk).2) (fun k hk => (oy8.lt k hk).1)
  have nb_g0_paT := box_old_of tpaT_7 (fun k hk => (oy8.lt k hk).1)
  have nb_g0_bw0 := box_old_of tbw0_7 (fun k hk => (oy8.lt k hk).1)
  have nb_g0_bx0 := box_old_of tbx0_7 (fun k hk => (oy8.lt k hk).1)
  have og0_8 : Own w8 w.heap.size (.slice Yy8 (lnL s0 x0).length cy8) (lnL s0 x0) := oy8.mono bb7.size
  clear oy8
  have bb8 : Below w.heap.size w w8 := Below.then bb7 b8
  have ow0_8 := ow0_7.below b8
  have ox0_8 := ox0_7.below b8
  have tpaT_8 := tpaT_7.below b8
  have ya_paT_8 := tpaT_8.1
  have yb_paT_8 := tpaT_8.2
  have tbw0_8 := tbw0_7.below b8
  have ya_bw0_8 := tbw0_8.1
  have yb_bw0_8 := tbw0_8.2
  have tbx0_8 := tbx0_7.below b8
  have ya_bx0_8 := tbx0_8.1
  have yb_bx0_8 := tbx0_8.2
  clear ow0_7 ox0_7 tpaT_7 ya_paT_7 yb_paT_7 tbw0_7 ya_bw0_7 yb_bw0_7 tbx0_7 ya_bx0_7 yb_bx0_7 bb7 b8
  have pre_paT_0 := (tpaT_8.below (below_alloc1 w8 (.cells #[.int .i64 (lnS s0 x0), (.slice Yy8 (lnL s0 x0).length cy8)] 27))).1
  have pre_paT_1 := (tpaT_8.below (below_alloc1 w8 (.cells #[.int .i64 (lnS s0 x0), (.slice Yy8 (lnL s0 x0).length cy8)] 27))).2
  have pre_bw0_0 := (tbw0_8.below (below_alloc1 w8 (.cells #[.int .i64 (lnS s0 x0), (.slice Yy8 (lnL s0 x0).length cy8)] 27))).1
  have pre_bw0_1 := (tbw0_8.below (below_alloc1 w8 (.cells #[.int .i64 (lnS s0 x0), (.slice Yy8 (lnL s0 x0).length cy8)] 27))).2
  have pre_bx0_0 := (tbx0_8.below (below_alloc1 w8 (.cells #[.int .i64 (lnS s0 x0), (.slice Yy8 (lnL s0 x0).length cy8)] 27))).1
  have pre_bx0_1 := (tbx0_8.below (below_alloc1 w8 (.cells #[.int .i64 (lnS s0 x0), (.slice Yy8 (lnL s0 x0).length cy8)] 27))).2
  go_wp2_with fail
  have b9 := below_alloc1 w8 (.cells #[.int .i64 (lnS s0 x0), (.slice Yy8 (lnL s0 x0).length cy8)] 27)
  have tbg0_9 := TBox.new w8 (lnS s0 x0) (.slice Yy8 (lnL s0 x0).length cy8) 27
  have nb_w0_bg0 := box_new_of (fun k hk => (ow0_8.lt k hk).2)
  have nb_x0_bg0 := box_new_of (fun k hk => (ox0_8.lt k hk).2)
  have nb_g0_bg0 := box_new_of (fun k hk => (og0_8.lt k hk).2)
  have g9 : w8.heap.size < (w8.alloc (.cells #[.int .i64 (lnS s0 x0), (.slice Yy8 (lnL s0 x0).length cy8)] 27)).heap.size := by simp
  generalize w8.alloc (.cells #[.int .i64 (lnS s0 x0), (.slice Yy8 (lnL s0 x0).length cy8)] 27) = w9 at *
  have ya_bg0_9 := tbg0_9.1
  have yb_bg0_9 := tbg0_9.2
  clear g9
  have bb9 : Below w.heap.size w w9 := Below.then bb8 b9
  have ow0_9 := ow0_8.below b9
  have ox0_9 := ox0_8.below b9
  have og0_9 := og0_8.below b9
  have tpaT_9 := tpaT_8.below b9
  have ya_paT_9 := tpaT_9.1
  have yb_paT_9 := tpaT_9.2
  have tbw0_9 := tbw0_8.below b9
  have ya_bw0_9 := tbw0_9.1
  have yb_bw0_9 := tbw0_9.2
  have tbx0_9 := tbx0_8.below b9
  have ya_bx0_9 := tbx0_9.1
  have yb_bx0_9 := tbx0_9.2
  clear ow0_8 ox0_8 og0_8 tpaT_8 ya_paT_8 yb_paT_8 tbw0_8 ya_bw0_8 yb_bw0_8 tbx0_8 ya_bx0_8 yb_bx0_8 bb8 b9
  clear pre_paT_0 pre_paT_1 pre_bw0_0 pre_bw0_1 pre_bx0_0 pre_bx0_1
  go_wp2_with fail
  refine (eqTour_refl (lnS s0 x0) (.slice Yy8 (lnL s0 x0).length cy8) (.slice Yy4 (lnL s0 x0).length cy4) (lnL s0 x0) _ og0_9.rd ow0_9.rd).mono ?_
  rintro e w10 ⟨rfl, b10⟩
  have bb10 : Below w.heap.size w w10 := Below.then bb9 b10
  have ow0_10 := ow0_9.below b10
  have ox0_10 := ox0_9.below b10
  have og0_10 := og0_9.below b10
  have tpaT_10 := tpaT_9.below b10
  have ya_paT_10 := tpaT_10.1
  have yb_paT_10 := tpaT_10.2
  have tbw0_10 := tbw0_9.below b10
  have ya_bw0_10 := tbw0_10.1
  have yb_bw0_10 := tbw0_10.2
  have tbx0_10 := tbx0_9.below b10
  have ya_bx0_10 := tbx0_10.1
  have yb_bx0_10 := tbx0_10.2
  have tbg0_10 := tbg0_9.below b10
  have ya_bg0_10 := tbg0_10.1
  have yb_bg0_10 := tbg0_10.2
  clear ow0_9 ox0_9 og0_9 tpaT_9 ya_paT_9 yb_paT_9 tbw0_9 ya_bw0_9 yb_bw0_9 tbx0_9 ya_bx0_9 yb_bx0_9 tbg0_9 ya_bg0_9 yb_bg0_9 bb9 b10
  go_wp2_with fail
  have bd_10 : Below w.heap.size w w10.drew := bb10.drew
  have odw0_10 : Own w10.drew w.heap.size (.slice Yy4 (lnL s0 x0).length cy4) (lnL s0 x0) := ow0_10
  have odx0_10 : Own w10.drew w.heap.size (.slice Y6 x0.length cy6) x0 := ox0_10
  have odg0_10 : Own w10.drew w.heap.size (.slice Yy8 (lnL s0 x0).length cy8) (lnL s0 x0) := og0_10
  have tdpaT_10 : TBox w10.drew w.heap.size s0 (.slice A0 x0.length c0) := tpaT_10
  have tdbw0_10 : TBox w10.drew w4.heap.size (lnS s0 x0) (.slice Yy4 (lnL s0 x0).length cy4) := tbw0_10
  have tdbx0_10 : TBox w10.drew w6.heap.size s0 (.slice Y6 x0.length cy6) := tbx0_10
  have tdbg0_10 : TBox w10.drew w8.heap.size (lnS s0 x0) (.slice Yy8 (lnL s0 x0).length cy8) := tbg0_10
  go_region_held3 (fun W => W.cell? ⟨w.heap.size, 0, none⟩ = some (.int .i64 s0) ∧ W.cell? ⟨w.heap.size, 1, none⟩ = some (.slice A0 x0.length c0) ∧ W.cell? ⟨w4.heap.size, 0, none⟩ = some (.int .i64 (lnS s0 x0)) ∧ W.cell? ⟨w4.heap.size, 1, none⟩ = some (.slice Yy4 (lnL s0 x0).length cy4) ∧ W.cell? ⟨w6.heap.size, 0, none⟩ = some (.int .i64 s0) ∧ W.cell? ⟨w6.heap.size, 1, none⟩ = some (.slice Y6 x0.length cy6) ∧ W.cell? ⟨w8.heap.size, 0, none⟩ = some (.int .i64 (lnS s0 x0)) ∧ W.cell? ⟨w8.heap.size, 1, none⟩ = some (.slice Yy8 (lnL s0 x0).length cy8))
    (first | exact ⟨ya_paT_10, yb_paT_10, ya_bw0_10, yb_bw0_10, ya_bx0_10, yb_bx0_10, ya_bg0_10, yb_bg0_10⟩ | exact ⟨ya_paT_11, yb_paT_11, ya_bw0_11, yb_bw0_11, ya_bx0_11, yb_bx0_11, ya_bg0_11, yb_bg0_11⟩ | exact ⟨ya_paT_12, yb_paT_12, ya_bw0_12, yb_bw0_12, ya_bx0_12, yb_bx0_12, ya_bg0_12, yb_bg0_12⟩)
    (first
      | (go_at_call 10; refine (toTour_any s0 (.slice A0 x0.length c0) x0 _ (R0.out.below bd_10) (by omega)).mono ?_; rintro e w11 ⟨y11, rfl, oo11, b11⟩; obtain ⟨Y11, cy11, rfl, -, -, -⟩ := oo11.form; have ap_w0_t2 := apart_of (fun k hk => (odw0_10.lt k hk).2) (fun k hk => (oo11.lt k hk).1); have ap_x0_t2 := apart_of (fun k hk => (odx0_10.lt k hk).2) (fun k hk => (oo11.lt k hk).1); have ap_g0_t2 := apart_of (fun k hk => (odg0_10.lt k hk).2) (fun k hk => (oo11.lt k hk).1); have nb_t2_paT := box_old_of tdpaT_10 (fun k hk => (oo11.lt k hk).1); have nb_t2_bw0 := box_old_of tdbw0_10 (fun k hk => (oo11.lt k hk).1); have nb_t2_bx0 := box_old_of tdbx0_10 (fun k hk => (oo11.lt k hk).1); have nb_t2_bg0 := box_old_of tdbg0_10 (fun k hk => (oo11.lt k hk).1); have ot2_11 : Own w11 w.heap.size (.slice Y11 x0.length cy11) x0 := oo11.mono bd_10.size; have bb11 : Below w.heap.size w w11 := Below.then bd_10 b11; have ow0_11 := odw0_10.below b11; have ox0_11 := odx0_10.below b11; have og0_11 := odg0_10.below b11; have tpaT_11 := tdpaT_10.below b11; have ya_paT_11 := tpaT_11.1; have yb_paT_11 := tpaT_11.2; have tbw0_11 := tdbw0_10.below b11; have ya_bw0_11 := tbw0_11.1; have yb_bw0_11 := tbw0_11.2; have tbx0_11 := tdbx0_10.below b11; have ya_bx0_11 := tbx0_11.1; have yb_bx0_11 := tbx0_11.2; have tbg0_11 := tdbg0_10.below b11; have ya_bg0_11 := tbg0_11.1; have yb_bg0_11 := tbg0_11.2)
      | (go_at_call 12; refine (eqTour_refl s0 (.slice Y6 x0.length cy6) (.slice Y11 x0.length cy11) x0 _ ox0_11.rd ot2_11.rd).mono ?_; rintro e w12 ⟨rfl, b12⟩; have bb12 : Below w.heap.size w w12 := Below.then bb11 b12; have ow0_12 := ow0_11.below b12; have ox0_12 := ox0_11.below b12; have og0_12 := og0_11.below b12; have ot2_12 := ot2_11.below b12; have tpaT_12 := tpaT_11.below b12; have ya_paT_12 := tpaT_12.1; have yb_paT_12 := tpaT_12.2; have tbw0_12 := tbw0_11.below b12; have ya_bw0_12 := tbw0_12.1; have yb_bw0_12 := tbw0_12.2; have tbx0_12 := tbx0_11.below b12; have ya_bx0_12 := tbx0_12.1; have yb_bx0_12 := tbx0_12.2; have tbg0_12 := tbg0_11.below b12; have ya_bg0_12 := tbg0_12.1; have yb_bg0_12 := tbg0_12.2))
  clear bb10 ow0_10 ox0_10 og0_10 tpaT_10 tbw0_10 tbx0_10 tbg0_10 oo11 odw0_10 odx0_10 odg0_10 tdpaT_10 ya_paT_10 yb_paT_10 tdbw0_10 ya_bw0_10 yb_bw0_10 tdbx0_10 ya_bx0_10 yb_bx0_10 tdbg0_10 ya_bg0_10 yb_bg0_10 bd_10 b11 ow0_11 ox0_11 og0_11 ot2_11 tpaT_11 ya_paT_11 yb_paT_11 tbw0_11 ya_bw0_11 yb_bw0_11 tbx0_11 ya_bx0_11 yb_bx0_11 tbg0_11 ya_bg0_11 yb_bg0_11 bb11 b12
  clear ot2_12
  go_wp2_with fail
  refine (markTour_any s0 (.slice Y6 x0.length cy6) x0 w.heap.size (1 : Int) _ ox0_12 (by omega) (by omega) (by omega)).mono ?_
  rintro e w13 ⟨rfl, om13, g13⟩
  have bb13 : Below w.heap.size w w13 := Below.grown bb12 g13 bb12.size (fun k hk => (ox0_12.lt k hk).1)
  have ow0_13 := ow0_12.kept g13 ap_w0_x0
  have og0_13 := og0_12.kept g13 (apart_symm ap_x0_g0)
  have tpaT_13 := tpaT_12.kept g13 (nb_ne nb_x0_paT)
  have ya_paT_13 := tpaT_13.1
  have yb_paT_13 := tpaT_13.2
  have tbw0_13 := tbw0_12.kept g13 (nb_ne nb_x0_bw0)
  have ya_bw0_13 := tbw0_13.1
  have yb_bw0_13 := tbw0_13.2
  have tbx0_13 := tbx0_12.kept g13 (nb_ne nb_x0_bx0)
  have ya_bx0_13 := tbx0_13.1
  have yb_bx0_13 := tbx0_13.2
  have tbg0_13 := tbg0_12.kept g13 (nb_ne nb_x0_bg0)
  have ya_bg0_13 := tbg0_13.1
  have yb_bg0_13 := tbg0_13.2
  clear bb12 ow0_12 og0_12 tpaT_12 ya_paT_12 yb_paT_12 tbw0_12 ya_bw0_12 yb_bw0_12 tbx0_12 ya_bx0_12 yb_bx0_12 tbg0_12 ya_bg0_12 yb_bg0_12 ox0_12 g13
  go_wp2_with fail
  refine (eqTour_refl (lnS s0 x0) (.slice Yy8 (lnL s0 x0).length cy8) (.slice Yy4 (lnL s0 x0).length cy4) (lnL s0 x0) _ og0_13.rd ow0_13.rd).mono ?_
  rintro e w14 ⟨rfl, b14⟩
  have bb14 : Below w.heap.size w w14 := Below.then bb13 b14
  have ow0_14 := ow0_13.below b14
  have ox0_14 := om13.below b14
  have og0_14 := og0_13.below b14
  have tpaT_14 := tpaT_13.below b14
  have ya_paT_14 := tpaT_14.1
  have yb_paT_14 := tpaT_14.2
  have tbw0_14 := tbw0_13.below b14
  have ya_bw0_14 := tbw0_14.1
  have yb_bw0_14 := tbw0_14.2
  have tbx0_14 := tbx0_13.below b14
  have ya_bx0_14 := tbx0_14.1
  have yb_bx0_14 := tbx0_14.2
  have tbg0_14 := tbg0_13.below b14
  have ya_bg0_14 := tbg0_14.1
  have yb_bg0_14 := tbg0_14.2
  clear ow0_13 om13 og0_13 tpaT_13 ya_paT_13 yb_paT_13 tbw0_13 ya_bw0_13 yb_bw0_13 tbx0_13 ya_bx0_13 yb_bx0_13 tbg0_13 ya_bg0_13 yb_bg0_13 bb13 b14
  go_wp2_with fail
  refine (markTour_any (lnS s0 x0) (.slice Yy8 (lnL s0 x0).length cy8) (lnL s0 x0) w.heap.size (1 : Int) _ og0_14 (by have := lnL_len s0 x0; omega) (by omega) (by omega)).mono ?_
  rintro e w15 ⟨rfl, om15, g15⟩
  have bb15 : Below w.heap.size w w15 := Below.grown bb14 g15 bb14.size (fun k hk => (og0_14.lt k hk).1)
  have ow0_15 := ow0_14.kept g15 ap_w0_g0
  have ox0_15 := ox0_14.kept g15 ap_x0_g0
  have tpaT_15 := tpaT_14.kept g15 (nb_ne nb_g0_paT)
  have ya_paT_15 := tpaT_15.1
  have yb_paT_15 := tpaT_15.2
  have tbw0_15 := tbw0_14.kept g15 (nb_ne nb_g0_bw0)
  have ya_bw0_15 := tbw0_15.1
  have yb_bw0_15 := tbw0_15.2
  have tbx0_15 := tbx0_14.kept g15 (nb_ne nb_g0_bx0)
  have ya_bx0_15 := tbx0_15.1
  have yb_bx0_15 := tbx0_15.2
  have tbg0_15 := tbg0_14.kept g15 (nb_ne nb_g0_bg0)
  have ya_bg0_15 := tbg0_15.1
  have yb_bg0_15 := tbg0_15.2
  clear bb14 ow0_14 ox0_14 tpaT_14 ya_paT_14 yb_paT_14 tbw0_14 ya_bw0_14 yb_bw0_14 tbx0_14 ya_bx0_14 yb_bx0_14 tbg0_14 ya_bg0_14 yb_bg0_14 og0_14 g15
  go_wp2_with fail
  refine (heldMarksTour_any (lnS s0 x0) (.slice Yy8 (lnL s0 x0).length cy8) (lnL s0 x0).length (1 : Int) _ om15.rd (by have := lnL_len s0 x0; omega) (by omega) (by omega)).mono ?_
  rintro e w16 ⟨rfl, b16⟩
  have bb16 : Below w.heap.size w w16 := Below.then bb15 b16
  have ow0_16 := ow0_15.below b16
  have ox0_16 := ox0_15.below b16
  have og0_16 := om15.below b16
  have tpaT_16 := tpaT_15.below b16
  have ya_paT_16 := tpaT_16.1
  have yb_paT_16 := tpaT_16.2
  have tbw0_16 := tbw0_15.below b16
  have ya_bw0_16 := tbw0_16.1
  have yb_bw0_16 := tbw0_16.2
  have tbx0_16 := tbx0_15.below b16
  have ya_bx0_16 := tbx0_16.1
  have yb_bx0_16 := tbx0_16.2
  have tbg0_16 := tbg0_15.below b16
  have ya_bg0_16 := tbg0_16.1
  have yb_bg0_16 := tbg0_16.2
  clear ow0_15 ox0_15 om15 tpaT_15 ya_paT_15 yb_paT_15 tbw0_15 ya_bw0_15 yb_bw0_15 tbx0_15 ya_bx0_15 yb_bx0_15 tbg0_15 ya_bg0_15 yb_bg0_15 bb15 b16
  go_wp2_with fail
  refine (toTour_any s0 (.slice A0 x0.length c0) x0 _ (R0.out.below bb16) (by omega)).mono ?_
  rintro e w17 ⟨y17, rfl, oo17, b17⟩
  obtain ⟨Y17, cy17, rfl, -, -, -⟩ := oo17.form
  have ap_w0_t3 := apart_of (fun k hk => (ow0_16.lt k hk).2) (fun k hk => (oo17.lt k hk).1)
  have ap_x0_t3 := apart_of (fun k hk => (ox0_16.lt k hk).2) (fun k hk => (oo17.lt k hk).1)
  have ap_g0_t3 := apart_of (fun k hk => (og0_16.lt k hk).2) (fun k hk => (oo17.lt k hk).1)
  have nb_t3_paT := box_old_of tpaT_16 (fun k hk => (oo17.lt k hk).1)
  have nb_t3_bw0 := box_old_of tbw0_16 (fun k hk => (oo17.lt k hk).1)
  have nb_t3_bx0 := box_old_of tbx0_16 (fun k hk => (oo17.lt k hk).1)
  have nb_t3_bg0 := box_old_of tbg0_16 (fun k hk => (oo17.lt k hk).1)
  have ot3_17 : Own w17 w.heap.size (.slice Y17 x0.length cy17) x0 := oo17.mono bb16.size
  clear oo17
  have bb17 : Below w.heap.size w w17 := Below.then bb16 b17
  have ow0_17 := ow0_16.below b17
  have ox0_17 := ox0_16.below b17
  have og0_17 := og0_16.below b17
  have tpaT_17 := tpaT_16.below b17
  have ya_paT_17 := tpaT_17.1
  have yb_paT_17 := tpaT_17.2
  have tbw0_17 := tbw0_16.below b17
  have ya_bw0_17 := tbw0_17.1
  have yb_bw0_17 := tbw0_17.2
  have tbx0_17 := tbx0_16.below b17
  have ya_bx0_17 := tbx0_17.1
  have yb_bx0_17 := tbx0_17.2
  have tbg0_17 := tbg0_16.below b17
  have ya_bg0_17 := tbg0_17.1
  have yb_bg0_17 := tbg0_17.2
  clear ow0_16 ox0_16 og0_16 tpaT_16 ya_paT_16 yb_paT_16 tbw0_16 ya_bw0_16 yb_bw0_16 tbx0_16 ya_bx0_16 yb_bx0_16 tbg0_16 ya_bg0_16 yb_bg0_16 bb16 b17
  go_wp2_with fail
  refine (implLeast s0 (.slice Y17 x0.length cy17) x0 _ ot3_17.rd).mono ?_
  rintro e w18 ⟨y18, rfl, oy18, b18⟩
  obtain ⟨Yy18, cy18, rfl, -, -, -⟩ := oy18.form
  have ap_w0_h0 := apart_of (fun k hk => (ow0_17.lt k hk).2) (fun k hk => (oy18.lt k hk).1)
  have ap_x0_h0 := apart_of (fun k hk => (ox0_17.lt k hk).2) (fun k hk => (oy18.lt k hk).1)
  have ap_g0_h0 := apart_of (fun k hk => (og0_17.lt k hk).2) (fun k hk => (oy18.lt k hk).1)
  have ap_t3_h0 := apart_of (fun k hk => (ot3_17.lt k hk).2) (fun k hk => (oy18.lt k hk).1)
  have nb_h0_paT := box_old_of tpaT_17 (fun k hk => (oy18.lt k hk).1)
  have nb_h0_bw0 := box_old_of tbw0_17 (fun k hk => (oy18.lt k hk).1)
  have nb_h0_bx0 := box_old_of tbx0_17 (fun k hk => (oy18.lt k hk).1)
  have nb_h0_bg0 := box_old_of tbg0_17 (fun k hk => (oy18.lt k hk).1)
  have oh0_18 : Own w18 w.heap.size (.slice Yy18 (lnL s0 x0).length cy18) (lnL s0 x0) := oy18.mono bb17.size
  clear oy18
  have bb18 : Below w.heap.size w w18 := Below.then bb17 b18
  have ow0_18 := ow0_17.below b18
  have ox0_18 := ox0_17.below b18
  have og0_18 := og0_17.below b18
  have ot3_18 := ot3_17.below b18
  have tpaT_18 := tpaT_17.below b18
  have ya_paT_18 := tpaT_18.1
  have yb_paT_18 := tpaT_18.2
  have tbw0_18 := tbw0_17.below b18
  have ya_bw0_18 := tbw0_18.1
  have yb_bw0_18 := tbw0_18.2
  have tbx0_18 := tbx0_17.below b18
  have ya_bx0_18 := tbx0_18.1
  have yb_bx0_18 := tbx0_18.2
  have tbg0_18 := tbg0_17.below b18
  have ya_bg0_18 := tbg0_18.1
  have yb_bg0_18 := tbg0_18.2
  clear ow0_17 ox0_17 og0_17 ot3_17 tpaT_17 ya_paT_17 yb_paT_17 tbw0_17 ya_bw0_17 yb_bw0_17 tbx0_17 ya_bx0_17 yb_bx0_17 tbg0_17 ya_bg0_17 yb_bg0_17 bb17 b18
  clear ot3_18
  have pre_paT_0 := (tpaT_18.below (below_alloc1 w18 (.cells #[.int .i64 (lnS s0 x0), (.slice Yy18 (lnL s0 x0).length cy18)] 27))).1
  have pre_paT_1 := (tpaT_18.below (below_alloc1 w18 (.cells #[.int .i64 (lnS s0 x0), (.slice Yy18 (lnL s0 x0).length cy18)] 27))).2
  have pre_bw0_0 := (tbw0_18.below (below_alloc1 w18 (.cells #[.int .i64 (lnS s0 x0), (.slice Yy18 (lnL s0 x0).length cy18)] 27))).1
  have pre_bw0_1 := (tbw0_18.below (below_alloc1 w18 (.cells #[.int .i64 (lnS s0 x0), (.slice Yy18 (lnL s0 x0).length cy18)] 27))).2
  have pre_bx0_0 := (tbx0_18.below (below_alloc1 w18 (.cells #[.int .i64 (lnS s0 x0), (.slice Yy18 (lnL s0 x0).length cy18)] 27))).1
  have pre_bx0_1 := (tbx0_18.below (below_alloc1 w18 (.cells #[.int .i64 (lnS s0 x0), (.slice Yy18 (lnL s0 x0).length cy18)] 27))).2
  have pre_bg0_0 := (tbg0_18.below (below_alloc1 w18 (.cells #[.int .i64 (lnS s0 x0), (.slice Yy18 (lnL s0 x0).length cy18)] 27))).1
  have pre_bg0_1 := (tbg0_18.below (below_alloc1 w18 (.cells #[.int .i64 (lnS s0 x0), (.slice Yy18 (lnL s0 x0).length cy18)] 27))).2
  go_wp2_with fail
  have b19 := below_alloc1 w18 (.cells #[.int .i64 (lnS s0 x0), (.slice Yy18 (lnL s0 x0).length cy18)] 27)
  have tbh0_19 := TBox.new w18 (lnS s0 x0) (.slice Yy18 (lnL s0 x0).length cy18) 27
  have nb_w0_bh0 := box_new_of (fun k hk => (ow0_18.lt k hk).2)
  have nb_x0_bh0 := box_new_of (fun k hk => (ox0_18.lt k hk).2)
  have nb_g0_bh0 := box_new_of (fun k hk => (og0_18.lt k hk).2)
  have nb_h0_bh0 := box_new_of (fun k hk => (oh0_18.lt k hk).2)
  have g19 : w18.heap.size < (w18.alloc (.cells #[.int .i64 (lnS s0 x0), (.slice Yy18 (lnL s0 x0).length cy18)] 27)).heap.size := by simp
  generalize w18.alloc (.cells #[.int .i64 (lnS s0 x0), (.slice Yy18 (lnL s0 x0).length cy18)] 27) = w19 at *
  have ya_bh0_19 := tbh0_19.1
  have yb_bh0_19 := tbh0_19.2
  clear g19
  have bb19 : Below w.heap.size w w19 := Below.then bb18 b19
  have ow0_19 := ow0_18.below b19
  have ox0_19 := ox0_18.below b19
  have og0_19 := og0_18.below b19
  have oh0_19 := oh0_18.below b19
  have tpaT_19 := tpaT_18.below b19
  have ya_paT_19 := tpaT_19.1
  have yb_paT_19 := tpaT_19.2
  have tbw0_19 := tbw0_18.below b19
  have ya_bw0_19 := tbw0_19.1
  have yb_bw0_19 := tbw0_19.2
  have tbx0_19 := tbx0_18.below b19
  have ya_bx0_19 := tbx0_19.1
  have yb_bx0_19 := tbx0_19.2
  have tbg0_19 := tbg0_18.below b19
  have ya_bg0_19 := tbg0_19.1
  have yb_bg0_19 := tbg0_19.2
  clear ow0_18 ox0_18 og0_18 oh0_18 tpaT_18 ya_paT_18 yb_paT_18 tbw0_18 ya_bw0_18 yb_bw0_18 tbx0_18 ya_bx0_18 yb_bx0_18 tbg0_18 ya_bg0_18 yb_bg0_18 bb18 b19
  clear pre_paT_0 pre_paT_1 pre_bw0_0 pre_bw0_1 pre_bx0_0 pre_bx0_1 pre_bg0_0 pre_bg0_1
  go_wp2_with fail
  refine (eqTour_refl (lnS s0 x0) (.slice Yy18 (lnL s0 x0).length cy18) (.slice Yy4 (lnL s0 x0).length cy4) (lnL s0 x0) _ oh0_19.rd ow0_19.rd).mono ?_
  rintro e w20 ⟨rfl, b20⟩
  have bb20 : Below w.heap.size w w20 := Below.then bb19 b20
  have ow0_20 := ow0_19.below b20
  have ox0_20 := ox0_19.below b20
  have og0_20 := og0_19.below b20
  have oh0_20 := oh0_19.below b20
  have tpaT_20 := tpaT_19.below b20
  have ya_paT_20 := tpaT_20.1
  have yb_paT_20 := tpaT_20.2
  have tbw0_20 := tbw0_19.below b20
  have ya_bw0_20 := tbw0_20.1
  have yb_bw0_20 := tbw0_20.2
  have tbx0_20 := tbx0_19.below b20
  have ya_bx0_20 := tbx0_20.1
  have yb_bx0_20 := tbx0_20.2
  have tbg0_20 := tbg0_19.below b20
  have ya_bg0_20 := tbg0_20.1
  have yb_bg0_20 := tbg0_20.2
  have tbh0_20 := tbh0_19.below b20
  have ya_bh0_20 := tbh0_20.1
  have yb_bh0_20 := tbh0_20.2
  clear ow0_19 ox0_19 og0_19 oh0_19 tpaT_19 ya_paT_19 yb_paT_19 tbw0_19 ya_bw0_19 yb_bw0_19 tbx0_19 ya_bx0_19 yb_bx0_19 tbg0_19 ya_bg0_19 yb_bg0_19 tbh0_19 ya_bh0_19 yb_bh0_19 bb19 b20
  go_wp2_with fail
  refine (heldMarksTour_any (lnS s0 x0) (.slice Yy8 (lnL s0 x0).length cy8) (lnL s0 x0).length (1 : Int) _ og0_20.rd (by have := lnL_len s0 x0; omega) (by omega) (by omega)).mono ?_
  rintro e w21 ⟨rfl, b21⟩
  have bb21 : Below w.heap.size w w21 := Below.then bb20 b21
  have ow0_21 := ow0_20.below b21
  have ox0_21 := ox0_20.below b21
  have og0_21 := og0_20.below b21
  have oh0_21 := oh0_20.below b21
  have tpaT_21 := tpaT_20.below b21
  have ya_paT_21 := tpaT_21.1
  have yb_paT_21 := tpaT_21.2
  have tbw0_21 := tbw0_20.below b21
  have ya_bw0_21 := tbw0_21.1
  have yb_bw0_21 := tbw0_21.2
  have tbx0_21 := tbx0_20.below b21
  have ya_bx0_21 := tbx0_21.1
  have yb_bx0_21 := tbx0_21.2
  have tbg0_21 := tbg0_20.below b21
  have ya_bg0_21 := tbg0_21.1
  have yb_bg0_21 := tbg0_21.2
  have tbh0_21 := tbh0_20.below b21
  have ya_bh0_21 := tbh0_21.1
  have yb_bh0_21 := tbh0_21.2
  clear ow0_20 ox0_20 og0_20 oh0_20 tpaT_20 ya_paT_20 yb_paT_20 tbw0_20 ya_bw0_20 yb_bw0_20 tbx0_20 ya_bx0_20 yb_bx0_20 tbg0_20 ya_bg0_20 yb_bg0_20 tbh0_20 ya_bh0_20 yb_bh0_20 bb20 b21
  go_wp2_with fail
  go_ret
  exact ⟨rfl, bb21⟩
end Go.Proofs.Ytceeplhkokajhab
