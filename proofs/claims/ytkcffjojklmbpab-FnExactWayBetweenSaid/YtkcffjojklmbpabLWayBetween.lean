/- FnExactWayBetween: the walk of the law. -/
import Derived.Test.YtkcffjojklmbpabWBt
import Derived.Test.YtkcffjojklmbpabTourL
import Derived.Test.YtkcffjojklmbpabFrame
import Derived.Test.YtkcffjojklmbpabMarkR
import Derived.Deep.RegionHeld3
namespace Go.Proofs.Ytkcffjojklmbpab
open Go.RowKit

set_option maxHeartbeats 2000000 in
theorem lawWayBetween (v0 v1 v2 : Value) (w : World) (h0 : TourOpen w v0) (h1 : IntV v1) (h2 : IntV v2) :
    Calls Try.prog 4 #[v0, v1, v2] w fun e w' => e = .returned (.bool true) ∧ Below w.heap.size w w' := by
  obtain ⟨s0, x0, ⟨u0, rfl, r0⟩, i0, lo0, hi0⟩ := h0
  have R0 := Lib.hid r0
  have I0 := Lib.hid i0
  obtain ⟨A0, c0, rfl, -, -, -⟩ := r0
  clear i0
  obtain ⟨a1, rfl, lo1, hi1⟩ := h1
  obtain ⟨a2, rfl, lo2, hi2⟩ := h2
  by_cases hn0 : 0 ≤ (1048576 : Int) - (x0.length : Int)
  case neg =>
    go_enter Try.func4, Try.ntmps4
    go_wp2_with fail
    have b1 := below_alloc1 w (.cells #[.int .i64 s0, (.slice A0 x0.length c0)] 24)
    have tpaT_1 := TBox.new w s0 (.slice A0 x0.length c0) 24
    have g1 : w.heap.size < (w.alloc (.cells #[.int .i64 s0, (.slice A0 x0.length c0)] 24)).heap.size := by simp
    generalize w.alloc (.cells #[.int .i64 s0, (.slice A0 x0.length c0)] 24) = w1 at *
    have ya_paT_1 := tpaT_1.1
    have yb_paT_1 := tpaT_1.2
    clear g1
    have bb1 : Below w.heap.size w w1 := b1
    clear b1
    go_wp2_with fail
    refine (szTour_any s0 (.slice A0 x0.length c0) x0 ((1048576 : Int)) _ (R0.out.below bb1) (by omega) (by omega)).mono ?_
    rintro e w2 ⟨rfl, b2⟩
    have bb2 : Below w.heap.size w w2 := Below.then bb1 b2
    have tpaT_2 := tpaT_1.below b2
    have ya_paT_2 := tpaT_2.1
    have yb_paT_2 := tpaT_2.2
    clear tpaT_1 ya_paT_1 yb_paT_1 bb1 b2
    rw [szI_no (by omega)]
    go_wp2_with fail
    go_ret
    exact ⟨rfl, bb2⟩
  go_enter Try.func4, Try.ntmps4
  go_wp2_with fail
  have b1 := below_alloc1 w (.cells #[.int .i64 s0, (.slice A0 x0.length c0)] 24)
  have tpaT_1 := TBox.new w s0 (.slice A0 x0.length c0) 24
  have g1 : w.heap.size < (w.alloc (.cells #[.int .i64 s0, (.slice A0 x0.length c0)] 24)).heap.size := by simp
  generalize w.alloc (.cells #[.int .i64 s0, (.slice A0 x0.length c0)] 24) = w1 at *
  have ya_paT_1 := tpaT_1.1
  have yb_paT_1 := tpaT_1.2
  clear g1
  have bb1 : Below w.heap.size w w1 := b1
  clear b1
  go_wp2_with fail
  refine (szTour_any s0 (.slice A0 x0.length c0) x0 ((1048576 : Int)) _ (R0.out.below bb1) (by omega) (by omega)).mono ?_
  rintro e w2 ⟨rfl, b2⟩
  have bb2 : Below w.heap.size w w2 := Below.then bb1 b2
  have tpaT_2 := tpaT_1.below b2
  have ya_paT_2 := tpaT_2.1
  have yb_paT_2 := tpaT_2.2
  clear tpaT_1 ya_paT_1 yb_paT_1 bb1 b2
  rw [szI_yes (by omega)]
  go_wp2_with fail
  refine (toTour_any s0 (.slice A0 x0.length c0) x0 _ (R0.out.below bb2) (by omega)).mono ?_
  rintro e w3 ⟨y3, rfl, oo3, b3⟩
  obtain ⟨Y3, cy3, rfl, -, -, -⟩ := oo3.form
  have nb_t1_paT := box_old_of tpaT_2 (fun k hk => (oo3.lt k hk).1)
  have ot1_3 : Own w3 w.heap.size (.slice Y3 x0.length cy3) x0 := oo3.mono bb2.size
  clear oo3
  have bb3 : Below w.heap.size w w3 := Below.then bb2 b3
  have tpaT_3 := tpaT_2.below b3
  have ya_paT_3 := tpaT_3.1
  have yb_paT_3 := tpaT_3.2
  clear tpaT_2 ya_paT_2 yb_paT_2 bb2 b3
  go_wp2_with fail
  refine (specWB s0 (.slice Y3 x0.length cy3) x0 a1 a2 _ ot1_3.rd).mono ?_
  rintro e w4 ⟨y4, rfl, oy4, b4⟩
  obtain ⟨Yy4, cy4, rfl, -, -, -⟩ := oy4.form
  have ap_t1_w0 := apart_of (fun k hk => (ot1_3.lt k hk).2) (fun k hk => (oy4.lt k hk).1)
  have nb_w0_paT := box_old_of tpaT_3 (fun k hk => (oy4.lt k hk).1)
  have ow0_4 : Own w4 w.heap.size (.slice Yy4 (wbL s0 x0 a1 a2).length cy4) (wbL s0 x0 a1 a2) := oy4.mono bb3.size
  clear oy4
  have bb4 : Below w.heap.size w w4 := Below.then bb3 b4
  have ot1_4 := ot1_3.below b4
  have tpaT_4 := tpaT_3.below b4
  have ya_paT_4 := tpaT_4.1
  have yb_paT_4 := tpaT_4.2
  clear ot1_3 tpaT_3 ya_paT_3 yb_paT_3 bb3 b4
  clear ot1_4
  go_wp2_with fail
  refine (toTour_any s0 (.slice A0 x0.length c0) x0 _ (R0.out.below bb4) (by omega)).mono ?_
  rintro e w5 ⟨y5, rfl, oo5, b5⟩
  obtain ⟨Y5, cy5, rfl, -, -, -⟩ := oo5.form
  have ap_w0_x0 := apart_of (fun k hk => (ow0_4.lt k hk).2) (fun k hk => (oo5.lt k hk).1)
  have nb_x0_paT := box_old_of tpaT_4 (fun k hk => (oo5.lt k hk).1)
  have ox0_5 : Own w5 w.heap.size (.slice Y5 x0.length cy5) x0 := oo5.mono bb4.size
  clear oo5
  have bb5 : Below w.heap.size w w5 := Below.then bb4 b5
  have ow0_5 := ow0_4.below b5
  have tpaT_5 := tpaT_4.below b5
  have ya_paT_5 := tpaT_5.1
  have yb_paT_5 := tpaT_5.2
  clear ow0_4 tpaT_4 ya_paT_4 yb_paT_4 bb4 b5
  have pre_paT_0 := (tpaT_5.below (below_alloc1 w5 (.cells #[.int .i64 s0, (.slice Y5 x0.length cy5)] 28))).1
  have pre_paT_1 := (tpaT_5.below (below_alloc1 w5 (.cells #[.int .i64 s0, (.slice Y5 x0.length cy5)] 28))).2
  go_wp2_with fail
  have b6 := below_alloc1 w5 (.cells #[.int .i64 s0, (.slice Y5 x0.length cy5)] 28)
  have tbx0_6 := TBox.new w5 s0 (.slice Y5 x0.length cy5) 28
  have nb_w0_bx0 := box_new_of (fun k hk => (ow0_5.lt k hk).2)
  have nb_x0_bx0 := box_new_of (fun k hk => (ox0_5.lt k hk).2)
  have g6 : w5.heap.size < (w5.alloc (.cells #[.int .i64 s0, (.slice Y5 x0.length cy5)] 28)).heap.size := by simp
  generalize w5.alloc (.cells #[.int .i64 s0, (.slice Y5 x0.length cy5)] 28) = w6 at *
  have ya_bx0_6 := tbx0_6.1
  have yb_bx0_6 := tbx0_6.2
  clear g6
  have bb6 : Below w.heap.size w w6 := Below.then bb5 b6
  have ow0_6 := ow0_5.below b6
  have ox0_6 := ox0_5.below b6
  have tpaT_6 := tpaT_5.below b6
  have ya_paT_6 := tpaT_6.1
  have yb_paT_6 := tpaT_6.2
  clear ow0_5 ox0_5 tpaT_5 ya_paT_5 yb_paT_5 bb5 b6
  clear pre_paT_0 pre_paT_1
  go_wp2_with fail
  refine (implWB s0 (.slice Y5 x0.length cy5) x0 a1 a2 _ ox0_6.rd).mono ?_
  rintro e w7 ⟨y7, rfl, oy7, b7⟩
  obtain ⟨Yy7, cy7, rfl, -, -, -⟩ := oy7.form
  have ap_w0_g0 := apart_of (fun k hk => (ow0_6.lt k hk).2) (fun k hk => (oy7.lt k hk).1)
  have ap_x0_g0 := apart_of (fun k hk => (ox0_6.lt k hk).2) (fun k hk => (oy7.lt k hk).1)
  have nb_g0_paT := box_old_of tpaT_6 (fun k hk => (oy7.lt k hk).1)
  have nb_g0_bx0 := box_old_of tbx0_6 (fun k hk => (oy7.lt k hk).1)
  have og0_7 : Own w7 w.heap.size (.slice Yy7 (wbL s0 x0 a1 a2).length cy7) (wbL s0 x0 a1 a2) := oy7.mono bb6.size
  clear oy7
  have bb7 : Below w.heap.size w w7 := Below.then bb6 b7
  have ow0_7 := ow0_6.below b7
  have ox0_7 := ox0_6.below b7
  have tpaT_7 := tpaT_6.below b7
  have ya_paT_7 := tpaT_7.1
  have yb_paT_7 := tpaT_7.2
  have tbx0_7 := tbx0_6.below b7
  have ya_bx0_7 := tbx0_7.1
  have yb_bx0_7 := tbx0_7.2
  clear ow0_6 ox0_6 tpaT_6 ya_paT_6 yb_paT_6 tbx0_6 ya_bx0_6 yb_bx0_6 bb6 b7
  go_wp2_with fail
  refine (of_drew (eqIntS_refl (.slice Yy7 (wbL s0 x0 a1 a2).length cy7) (.slice Yy4 (wbL s0 x0 a1 a2).length cy4) (wbL s0 x0 a1 a2) _ og0_7.rd ow0_7.rd)).mono ?_
  rintro e w8 ⟨rfl, b8⟩
  have bb8 : Below w.heap.size w w8 := Below.then bb7 b8
  have ow0_8 := ow0_7.below b8
  have ox0_8 := ox0_7.below b8
  have og0_8 := og0_7.below b8
  have tpaT_8 := tpaT_7.below b8
  have ya_paT_8 := tpaT_8.1
  have yb_paT_8 := tpaT_8.2
  have tbx0_8 := tbx0_7.below b8
  have ya_bx0_8 := tbx0_8.1
  have yb_bx0_8 := tbx0_8.2
  clear ow0_7 ox0_7 og0_7 tpaT_7 ya_paT_7 yb_paT_7 tbx0_7 ya_bx0_7 yb_bx0_7 bb7 b8
  go_wp2_with fail
  have bd_8 : Below w.heap.size w w8.drew := bb8.drew
  have odw0_8 : Own w8.drew w.heap.size (.slice Yy4 (wbL s0 x0 a1 a2).length cy4) (wbL s0 x0 a1 a2) := ow0_8
  have odx0_8 : Own w8.drew w.heap.size (.slice Y5 x0.length cy5) x0 := ox0_8
  have odg0_8 : Own w8.drew w.heap.size (.slice Yy7 (wbL s0 x0 a1 a2).length cy7) (wbL s0 x0 a1 a2) := og0_8
  have tdpaT_8 : TBox w8.drew w.heap.size s0 (.slice A0 x0.length c0) := tpaT_8
  have tdbx0_8 : TBox w8.drew w5.heap.size s0 (.slice Y5 x0.length cy5) := tbx0_8
  go_region_held3 (fun W => W.cell? ⟨w.heap.size, 0, none⟩ = some (.int .i64 s0) ∧ W.cell? ⟨w.heap.size, 1, none⟩ = some (.slice A0 x0.length c0) ∧ W.cell? ⟨w5.heap.size, 0, none⟩ = some (.int .i64 s0) ∧ W.cell? ⟨w5.heap.size, 1, none⟩ = some (.slice Y5 x0.length cy5))
    (first | exact ⟨ya_paT_8, yb_paT_8, ya_bx0_8, yb_bx0_8⟩ | exact ⟨ya_paT_9, yb_paT_9, ya_bx0_9, yb_bx0_9⟩ | exact ⟨ya_paT_10, yb_paT_10, ya_bx0_10, yb_bx0_10⟩)
    (first
      | (go_at_call 11; refine (toTour_any s0 (.slice A0 x0.length c0) x0 _ (R0.out.below bd_8) (by omega)).mono ?_; rintro e w9 ⟨y9, rfl, oo9, b9⟩; obtain ⟨Y9, cy9, rfl, -, -, -⟩ := oo9.form; have ap_w0_t2 := apart_of (fun k hk => (odw0_8.lt k hk).2) (fun k hk => (oo9.lt k hk).1); have ap_x0_t2 := apart_of (fun k hk => (odx0_8.lt k hk).2) (fun k hk => (oo9.lt k hk).1); have ap_g0_t2 := apart_of (fun k hk => (odg0_8.lt k hk).2) (fun k hk => (oo9.lt k hk).1); have nb_t2_paT := box_old_of tdpaT_8 (fun k hk => (oo9.lt k hk).1); have nb_t2_bx0 := box_old_of tdbx0_8 (fun k hk => (oo9.lt k hk).1); have ot2_9 : Own w9 w.heap.size (.slice Y9 x0.length cy9) x0 := oo9.mono bd_8.size; have bb9 : Below w.heap.size w w9 := Below.then bd_8 b9; have ow0_9 := odw0_8.below b9; have ox0_9 := odx0_8.below b9; have og0_9 := odg0_8.below b9; have tpaT_9 := tdpaT_8.below b9; have ya_paT_9 := tpaT_9.1; have yb_paT_9 := tpaT_9.2; have tbx0_9 := tdbx0_8.below b9; have ya_bx0_9 := tbx0_9.1; have yb_bx0_9 := tbx0_9.2)
      | (go_at_call 14; refine (eqTour_refl s0 (.slice Y5 x0.length cy5) (.slice Y9 x0.length cy9) x0 _ ox0_9.rd ot2_9.rd).mono ?_; rintro e w10 ⟨rfl, b10⟩; have bb10 : Below w.heap.size w w10 := Below.then bb9 b10; have ow0_10 := ow0_9.below b10; have ox0_10 := ox0_9.below b10; have og0_10 := og0_9.below b10; have ot2_10 := ot2_9.below b10; have tpaT_10 := tpaT_9.below b10; have ya_paT_10 := tpaT_10.1; have yb_paT_10 := tpaT_10.2; have tbx0_10 := tbx0_9.below b10; have ya_bx0_10 := tbx0_10.1; have yb_bx0_10 := tbx0_10.2))
  clear bb8 ow0_8 ox0_8 og0_8 tpaT_8 tbx0_8 oo9 odw0_8 odx0_8 odg0_8 tdpaT_8 ya_paT_8 yb_paT_8 tdbx0_8 ya_bx0_8 yb_bx0_8 bd_8 b9 ow0_9 ox0_9 og0_9 ot2_9 tpaT_9 ya_paT_9 yb_paT_9 tbx0_9 ya_bx0_9 yb_bx0_9 bb9 b10
  clear ot2_10
  go_wp2_with fail
  refine (markTour_any s0 (.slice Y5 x0.length cy5) x0 w.heap.size (1 : Int) _ ox0_10 (by omega) (by omega) (by omega)).mono ?_
  rintro e w11 ⟨rfl, om11, g11⟩
  have bb11 : Below w.heap.size w w11 := Below.grown bb10 g11 bb10.size (fun k hk => (ox0_10.lt k hk).1)
  have ow0_11 := ow0_10.kept g11 ap_w0_x0
  have og0_11 := og0_10.kept g11 (apart_symm ap_x0_g0)
  have tpaT_11 := tpaT_10.kept g11 (nb_ne nb_x0_paT)
  have ya_paT_11 := tpaT_11.1
  have yb_paT_11 := tpaT_11.2
  have tbx0_11 := tbx0_10.kept g11 (nb_ne nb_x0_bx0)
  have ya_bx0_11 := tbx0_11.1
  have yb_bx0_11 := tbx0_11.2
  clear bb10 ow0_10 og0_10 tpaT_10 ya_paT_10 yb_paT_10 tbx0_10 ya_bx0_10 yb_bx0_10 ox0_10 g11
  go_wp2_with fail
  refine (of_drew (eqIntS_refl (.slice Yy7 (wbL s0 x0 a1 a2).length cy7) (.slice Yy4 (wbL s0 x0 a1 a2).length cy4) (wbL s0 x0 a1 a2) _ og0_11.rd ow0_11.rd)).mono ?_
  rintro e w12 ⟨rfl, b12⟩
  have bb12 : Below w.heap.size w w12 := Below.then bb11 b12
  have ow0_12 := ow0_11.below b12
  have ox0_12 := om11.below b12
  have og0_12 := og0_11.below b12
  have tpaT_12 := tpaT_11.below b12
  have ya_paT_12 := tpaT_12.1
  have yb_paT_12 := tpaT_12.2
  have tbx0_12 := tbx0_11.below b12
  have ya_bx0_12 := tbx0_12.1
  have yb_bx0_12 := tbx0_12.2
  clear ow0_11 om11 og0_11 tpaT_11 ya_paT_11 yb_paT_11 tbx0_11 ya_bx0_11 yb_bx0_11 bb11 b12
  go_wp2_with fail
  refine (markIntS_any (.slice Yy7 (wbL s0 x0 a1 a2).length cy7) (wbL s0 x0 a1 a2) w.heap.size (1 : Int) _ og0_12 (by have := wbL_len s0 x0 a1 a2; omega) (by omega) (by omega)).mono ?_
  rintro e w13 ⟨rfl, om13, g13⟩
  have bb13 : Below w.heap.size w w13 := Below.grown bb12 g13 bb12.size (fun k hk => (og0_12.lt k hk).1)
  have ow0_13 := ow0_12.kept g13 ap_w0_g0
  have ox0_13 := ox0_12.kept g13 ap_x0_g0
  have tpaT_13 := tpaT_12.kept g13 (nb_ne nb_g0_paT)
  have ya_paT_13 := tpaT_13.1
  have yb_paT_13 := tpaT_13.2
  have tbx0_13 := tbx0_12.kept g13 (nb_ne nb_g0_bx0)
  have ya_bx0_13 := tbx0_13.1
  have yb_bx0_13 := tbx0_13.2
  clear bb12 ow0_12 ox0_12 tpaT_12 ya_paT_12 yb_paT_12 tbx0_12 ya_bx0_12 yb_bx0_12 og0_12 g13
  go_wp2_with fail
  refine (of_same (heldMarks_any (.slice Yy7 (wbL s0 x0 a1 a2).length cy7) (wbL s0 x0 a1 a2).length (1 : Int) _ om13.rd (by have := wbL_len s0 x0 a1 a2; omega) (by omega) (by omega))).mono ?_
  rintro e w14 ⟨rfl, b14⟩
  have bb14 : Below w.heap.size w w14 := Below.then bb13 b14
  have ow0_14 := ow0_13.below b14
  have ox0_14 := ox0_13.below b14
  have og0_14 := om13.below b14
  have tpaT_14 := tpaT_13.below b14
  have ya_paT_14 := tpaT_14.1
  have yb_paT_14 := tpaT_14.2
  have tbx0_14 := tbx0_13.below b14
  have ya_bx0_14 := tbx0_14.1
  have yb_bx0_14 := tbx0_14.2
  clear ow0_13 ox0_13 om13 tpaT_13 ya_paT_13 yb_paT_13 tbx0_13 ya_bx0_13 yb_bx0_13 bb13 b14
  go_wp2_with fail
  refine (toTour_any s0 (.slice A0 x0.length c0) x0 _ (R0.out.below bb14) (by omega)).mono ?_
  rintro e w15 ⟨y15, rfl, oo15, b15⟩
  obtain ⟨Y15, cy15, rfl, -, -, -⟩ := oo15.form
  have ap_w0_t3 := apart_of (fun k hk => (ow0_14.lt k hk).2) (fun k hk => (oo15.lt k hk).1)
  have ap_x0_t3 := apart_of (fun k hk => (ox0_14.lt k hk).2) (fun k hk => (oo15.lt k hk).1)
  have ap_g0_t3 := apart_of (fun k hk => (og0_14.lt k hk).2) (fun k hk => (oo15.lt k hk).1)
  have nb_t3_paT := box_old_of tpaT_14 (fun k hk => (oo15.lt k hk).1)
  have nb_t3_bx0 := box_old_of tbx0_14 (fun k hk => (oo15.lt k hk).1)
  have ot3_15 : Own w15 w.heap.size (.slice Y15 x0.length cy15) x0 := oo15.mono bb14.size
  clear oo15
  have bb15 : Below w.heap.size w w15 := Below.then bb14 b15
  have ow0_15 := ow0_14.below b15
  have ox0_15 := ox0_14.below b15
  have og0_15 := og0_14.below b15
  have tpaT_15 := tpaT_14.below b15
  have ya_paT_15 := tpaT_15.1
  have yb_paT_15 := tpaT_15.2
  have tbx0_15 := tbx0_14.below b15
  have ya_bx0_15 := tbx0_15.1
  have yb_bx0_15 := tbx0_15.2
  clear ow0_14 ox0_14 og0_14 tpaT_14 ya_paT_14 yb_paT_14 tbx0_14 ya_bx0_14 yb_bx0_14 bb14 b15
  go_wp2_with fail
  refine (implWB s0 (.slice Y15 x0.length cy15) x0 a1 a2 _ ot3_15.rd).mono ?_
  rintro e w16 ⟨y16, rfl, oy16, b16⟩
  obtain ⟨Yy16, cy16, rfl, -, -, -⟩ := oy16.form
  have ap_w0_h0 := apart_of (fun k hk => (ow0_15.lt k hk).2) (fun k hk => (oy16.lt k hk).1)
  have ap_x0_h0 := apart_of (fun k hk => (ox0_15.lt k hk).2) (fun k hk => (oy16.lt k hk).1)
  have ap_g0_h0 := apart_of (fun k hk => (og0_15.lt k hk).2) (fun k hk => (oy16.lt k hk).1)
  have ap_t3_h0 := apart_of (fun k hk => (ot3_15.lt k hk).2) (fun k hk => (oy16.lt k hk).1)
  have nb_h0_paT := box_old_of tpaT_15 (fun k hk => (oy16.lt k hk).1)
  have nb_h0_bx0 := box_old_of tbx0_15 (fun k hk => (oy16.lt k hk).1)
  have oh0_16 : Own w16 w.heap.size (.slice Yy16 (wbL s0 x0 a1 a2).length cy16) (wbL s0 x0 a1 a2) := oy16.mono bb15.size
  clear oy16
  have bb16 : Below w.heap.size w w16 := Below.then bb15 b16
  have ow0_16 := ow0_15.below b16
  have ox0_16 := ox0_15.below b16
  have og0_16 := og0_15.below b16
  have ot3_16 := ot3_15.below b16
  have tpaT_16 := tpaT_15.below b16
  have ya_paT_16 := tpaT_16.1
  have yb_paT_16 := tpaT_16.2
  have tbx0_16 := tbx0_15.below b16
  have ya_bx0_16 := tbx0_16.1
  have yb_bx0_16 := tbx0_16.2
  clear ow0_15 ox0_15 og0_15 ot3_15 tpaT_15 ya_paT_15 yb_paT_15 tbx0_15 ya_bx0_15 yb_bx0_15 bb15 b16
  clear ot3_16
  go_wp2_with fail
  refine (of_drew (eqIntS_refl (.slice Yy16 (wbL s0 x0 a1 a2).length cy16) (.slice Yy4 (wbL s0 x0 a1 a2).length cy4) (wbL s0 x0 a1 a2) _ oh0_16.rd ow0_16.rd)).mono ?_
  rintro e w17 ⟨rfl, b17⟩
  have bb17 : Below w.heap.size w w17 := Below.then bb16 b17
  have ow0_17 := ow0_16.below b17
  have ox0_17 := ox0_16.below b17
  have og0_17 := og0_16.below b17
  have oh0_17 := oh0_16.below b17
  have tpaT_17 := tpaT_16.below b17
  have ya_paT_17 := tpaT_17.1
  have yb_paT_17 := tpaT_17.2
  have tbx0_17 := tbx0_16.below b17
  have ya_bx0_17 := tbx0_17.1
  have yb_bx0_17 := tbx0_17.2
  clear ow0_16 ox0_16 og0_16 oh0_16 tpaT_16 ya_paT_16 yb_paT_16 tbx0_16 ya_bx0_16 yb_bx0_16 bb16 b17
  go_wp2_with fail
  refine (of_same (heldMarks_any (.slice Yy7 (wbL s0 x0 a1 a2).length cy7) (wbL s0 x0 a1 a2).length (1 : Int) _ og0_17.rd (by have := wbL_len s0 x0 a1 a2; omega) (by omega) (by omega))).mono ?_
  rintro e w18 ⟨rfl, b18⟩
  have bb18 : Below w.heap.size w w18 := Below.then bb17 b18
  have ow0_18 := ow0_17.below b18
  have ox0_18 := ox0_17.below b18
  have og0_18 := og0_17.below b18
  have oh0_18 := oh0_17.below b18
  have tpaT_18 := tpaT_17.below b18
  have ya_paT_18 := tpaT_18.1
  have yb_paT_18 := tpaT_18.2
  have tbx0_18 := tbx0_17.below b18
  have ya_bx0_18 := tbx0_18.1
  have yb_bx0_18 := tbx0_18.2
  clear ow0_17 ox0_17 og0_17 oh0_17 tpaT_17 ya_paT_17 yb_paT_17 tbx0_17 ya_bx0_17 yb_bx0_17 bb17 b18
  go_wp2_with fail
  go_ret
  exact ⟨rfl, bb18⟩
end Go.Proofs.Ytkcffjojklmbpab
