/- FnExactAreLike: the walk of the law. -/
import Derived.Test.YtceeplhkokajhabLikeS
import Derived.Test.YtceeplhkokajhabTourL
import Derived.Test.YtceeplhkokajhabFrame
import Derived.Deep.RegionHeld3
import Derived.Deep.DeepCutAuto
namespace Go.Proofs.Ytceeplhkokajhab
open Go.RowKit
set_option maxRecDepth 100000

set_option maxHeartbeats 16000000 in
theorem lawAreLike (v0 v1 : Value) (w : World) (h0 : TourOpen w v0) (h1 : TourOpen w v1) :
    Calls Try.prog 4 #[v0, v1] w fun e w' => e = .returned (.bool true) ∧ Below w.heap.size w w' := by
  obtain ⟨s0, x0, ⟨u0, rfl, r0⟩, i0, lo0, hi0⟩ := h0
  have R0 := Lib.hid r0
  have I0 := Lib.hid i0
  obtain ⟨A0, c0, rfl, -, -, -⟩ := r0
  clear i0
  obtain ⟨s1, x1, ⟨u1, rfl, r1⟩, i1, lo1, hi1⟩ := h1
  have R1 := Lib.hid r1
  have I1 := Lib.hid i1
  obtain ⟨A1, c1, rfl, -, -, -⟩ := r1
  clear i1
  by_cases hn0 : 0 ≤ (1048576 : Int) - (x0.length : Int)
  case neg =>
    go_enter Try.func4, Try.ntmps4
    go_wp2_with fail
    have tpaT_2 : TBox ((w.alloc (.cells #[.int .i64 s0, (.slice A0 x0.length c0)] 24)).alloc (.cells #[.int .i64 s1, (.slice A1 x1.length c1)] 24)) w.heap.size s0 (.slice A0 x0.length c0) := (TBox.new w s0 (.slice A0 x0.length c0) 24).below (below_alloc1 _ _)
    have tpaU_2 : TBox ((w.alloc (.cells #[.int .i64 s0, (.slice A0 x0.length c0)] 24)).alloc (.cells #[.int .i64 s1, (.slice A1 x1.length c1)] 24)) (w.heap.size + 1) s1 (.slice A1 x1.length c1) := by (have h := TBox.new (w.alloc (.cells #[.int .i64 s0, (.slice A0 x0.length c0)] 24)) s1 (.slice A1 x1.length c1) 24; rwa [World.size_alloc] at h)
    have bb2 : Below w.heap.size w ((w.alloc (.cells #[.int .i64 s0, (.slice A0 x0.length c0)] 24)).alloc (.cells #[.int .i64 s1, (.slice A1 x1.length c1)] 24)) := (below_alloc1 w _).alloc (by simp) _
    generalize (w.alloc (.cells #[.int .i64 s0, (.slice A0 x0.length c0)] 24)).alloc (.cells #[.int .i64 s1, (.slice A1 x1.length c1)] 24) = w2 at *
    have ya_paT_2 := tpaT_2.1
    have yb_paT_2 := tpaT_2.2
    have ya_paU_2 := tpaU_2.1
    have yb_paU_2 := tpaU_2.2
    go_wp2_with fail
    refine (szTour_any s0 (.slice A0 x0.length c0) x0 ((1048576 : Int)) _ (R0.out.below bb2) (by omega) (by omega)).mono ?_
    rintro e w3 ⟨rfl, b3⟩
    have bb3 : Below w.heap.size w w3 := Below.then bb2 b3
    have tpaT_3 := tpaT_2.below b3
    have ya_paT_3 := tpaT_3.1
    have yb_paT_3 := tpaT_3.2
    have tpaU_3 := tpaU_2.below b3
    have ya_paU_3 := tpaU_3.1
    have yb_paU_3 := tpaU_3.2
    clear tpaT_2 ya_paT_2 yb_paT_2 tpaU_2 ya_paU_2 yb_paU_2 bb2 b3
    rw [szI_no (by omega)]
    go_wp2_with fail
    go_ret
    exact ⟨rfl, bb3⟩
  by_cases hn1 : 0 ≤ (1048576 : Int) - (x0.length : Int) - (x1.length : Int)
  case neg =>
    go_enter Try.func4, Try.ntmps4
    go_wp2_with fail
    have tpaT_2 : TBox ((w.alloc (.cells #[.int .i64 s0, (.slice A0 x0.length c0)] 24)).alloc (.cells #[.int .i64 s1, (.slice A1 x1.length c1)] 24)) w.heap.size s0 (.slice A0 x0.length c0) := (TBox.new w s0 (.slice A0 x0.length c0) 24).below (below_alloc1 _ _)
    have tpaU_2 : TBox ((w.alloc (.cells #[.int .i64 s0, (.slice A0 x0.length c0)] 24)).alloc (.cells #[.int .i64 s1, (.slice A1 x1.length c1)] 24)) (w.heap.size + 1) s1 (.slice A1 x1.length c1) := by (have h := TBox.new (w.alloc (.cells #[.int .i64 s0, (.slice A0 x0.length c0)] 24)) s1 (.slice A1 x1.length c1) 24; rwa [World.size_alloc] at h)
    have bb2 : Below w.heap.size w ((w.alloc (.cells #[.int .i64 s0, (.slice A0 x0.length c0)] 24)).alloc (.cells #[.int .i64 s1, (.slice A1 x1.length c1)] 24)) := (below_alloc1 w _).alloc (by simp) _
    generalize (w.alloc (.cells #[.int .i64 s0, (.slice A0 x0.length c0)] 24)).alloc (.cells #[.int .i64 s1, (.slice A1 x1.length c1)] 24) = w2 at *
    have ya_paT_2 := tpaT_2.1
    have yb_paT_2 := tpaT_2.2
    have ya_paU_2 := tpaU_2.1
    have yb_paU_2 := tpaU_2.2
    go_wp2_with fail
    refine (szTour_any s0 (.slice A0 x0.length c0) x0 ((1048576 : Int)) _ (R0.out.below bb2) (by omega) (by omega)).mono ?_
    rintro e w3 ⟨rfl, b3⟩
    have bb3 : Below w.heap.size w w3 := Below.then bb2 b3
    have tpaT_3 := tpaT_2.below b3
    have ya_paT_3 := tpaT_3.1
    have yb_paT_3 := tpaT_3.2
    have tpaU_3 := tpaU_2.below b3
    have ya_paU_3 := tpaU_3.1
    have yb_paU_3 := tpaU_3.2
    clear tpaT_2 ya_paT_2 yb_paT_2 tpaU_2 ya_paU_2 yb_paU_2 bb2 b3
    rw [szI_yes (by omega)]
    go_wp2_with fail
    refine (szTour_any s1 (.slice A1 x1.length c1) x1 ((1048576 : Int) - (x0.length : Int)) _ (R1.out.below bb3) (by omega) (by omega)).mono ?_
    rintro e w4 ⟨rfl, b4⟩
    have bb4 : Below w.heap.size w w4 := Below.then bb3 b4
    have tpaT_4 := tpaT_3.below b4
    have ya_paT_4 := tpaT_4.1
    have yb_paT_4 := tpaT_4.2
    have tpaU_4 := tpaU_3.below b4
    have ya_paU_4 := tpaU_4.1
    have yb_paU_4 := tpaU_4.2
    clear tpaT_3 ya_paT_3 yb_paT_3 tpaU_3 ya_paU_3 yb_paU_3 bb3 b4
    rw [szI_no (by omega)]
    go_wp2_with fail
    go_ret
    exact ⟨rfl, bb4⟩
  go_enter Try.func4, Try.ntmps4
  go_wp2_with fail
  have tpaT_2 : TBox ((w.alloc (.cells #[.int .i64 s0, (.slice A0 x0.length c0)] 24)).alloc (.cells #[.int .i64 s1, (.slice A1 x1.length c1)] 24)) w.heap.size s0 (.slice A0 x0.length c0) := (TBox.new w s0 (.slice A0 x0.length c0) 24).below (below_alloc1 _ _)
  have tpaU_2 : TBox ((w.alloc (.cells #[.int .i64 s0, (.slice A0 x0.length c0)] 24)).alloc (.cells #[.int .i64 s1, (.slice A1 x1.length c1)] 24)) (w.heap.size + 1) s1 (.slice A1 x1.length c1) := by (have h := TBox.new (w.alloc (.cells #[.int .i64 s0, (.slice A0 x0.length c0)] 24)) s1 (.slice A1 x1.length c1) 24; rwa [World.size_alloc] at h)
  have bb2 : Below w.heap.size w ((w.alloc (.cells #[.int .i64 s0, (.slice A0 x0.length c0)] 24)).alloc (.cells #[.int .i64 s1, (.slice A1 x1.length c1)] 24)) := (below_alloc1 w _).alloc (by simp) _
  generalize (w.alloc (.cells #[.int .i64 s0, (.slice A0 x0.length c0)] 24)).alloc (.cells #[.int .i64 s1, (.slice A1 x1.length c1)] 24) = w2 at *
  have ya_paT_2 := tpaT_2.1
  have yb_paT_2 := tpaT_2.2
  have ya_paU_2 := tpaU_2.1
  have yb_paU_2 := tpaU_2.2
  go_wp2_with fail
  refine (szTour_any s0 (.slice A0 x0.length c0) x0 ((1048576 : Int)) _ (R0.out.below bb2) (by omega) (by omega)).mono ?_
  rintro e w3 ⟨rfl, b3⟩
  have bb3 : Below w.heap.size w w3 := Below.then bb2 b3
  have tpaT_3 := tpaT_2.below b3
  have ya_paT_3 := tpaT_3.1
  have yb_paT_3 := tpaT_3.2
  have tpaU_3 := tpaU_2.below b3
  have ya_paU_3 := tpaU_3.1
  have yb_paU_3 := tpaU_3.2
  clear tpaT_2 ya_paT_2 yb_paT_2 tpaU_2 ya_paU_2 yb_paU_2 bb2 b3
  rw [szI_yes (by omega)]
  go_wp2_with fail
  refine (szTour_any s1 (.slice A1 x1.length c1) x1 ((1048576 : Int) - (x0.length : Int)) _ (R1.out.below bb3) (by omega) (by omega)).mono ?_
  rintro e w4 ⟨rfl, b4⟩
  have bb4 : Below w.heap.size w w4 := Below.then bb3 b4
  have tpaT_4 := tpaT_3.below b4
  have ya_paT_4 := tpaT_4.1
  have yb_paT_4 := tpaT_4.2
  have tpaU_4 := tpaU_3.below b4
  have ya_paU_4 := tpaU_4.1
  have yb_paU_4 := tpaU_4.2
  clear tpaT_3 ya_paT_3 yb_paT_3 tpaU_3 ya_paU_3 yb_paU_3 bb3 b4
  rw [szI_yes (by omega)]
  go_wp2_with fail
  have bd_4 : Below w.heap.size w w4.drew := bb4.drew
  have tdpaT_4 : TBox w4.drew w.heap.size s0 (.slice A0 x0.length c0) := tpaT_4
  have tdpaU_4 : TBox w4.drew (w.heap.size + 1) s1 (.slice A1 x1.length c1) := tpaU_4
  go_region_held3 (fun W => W.cell? ⟨w.heap.size, 0, none⟩ = some (.int .i64 s0) ∧ W.cell? ⟨w.heap.size, 1, none⟩ = some (.slice A0 x0.length c0) ∧ W.cell? ⟨(w.heap.size + 1), 0, none⟩ = some (.int .i64 s1) ∧ W.cell? ⟨(w.heap.size + 1), 1, none⟩ = some (.slice A1 x1.length c1))
    (first | exact ⟨ya_paT_4, yb_paT_4, ya_paU_4, yb_paU_4⟩ | exact ⟨ya_paT_5, yb_paT_5, ya_paU_5, yb_paU_5⟩ | exact ⟨ya_paT_6, yb_paT_6, ya_paU_6, yb_paU_6⟩ | exact ⟨ya_paT_7, yb_paT_7, ya_paU_7, yb_paU_7⟩)
    (first
      | (go_at_call_of 10 s0; refine (toTour_any s0 (.slice A0 x0.length c0) x0 _ (R0.out.below bd_4) (by omega)).mono ?_; rintro e w5 ⟨y5, rfl, oo5, b5⟩; obtain ⟨Y5, cy5, rfl, -, -, -⟩ := oo5.form; have nb_t1_paT := box_old_of tdpaT_4 (fun k hk => (oo5.lt k hk).1); have nb_t1_paU := box_old_of tdpaU_4 (fun k hk => (oo5.lt k hk).1); have ot1_5 : Own w5 w.heap.size (.slice Y5 x0.length cy5) x0 := oo5.mono bd_4.size; have bb5 : Below w.heap.size w w5 := Below.then bd_4 b5; have tpaT_5 := tdpaT_4.below b5; have ya_paT_5 := tpaT_5.1; have yb_paT_5 := tpaT_5.2; have tpaU_5 := tdpaU_4.below b5; have ya_paU_5 := tpaU_5.1; have yb_paU_5 := tpaU_5.2)
      | (go_at_call_of 10 s1; refine (toTour_any s1 (.slice A1 x1.length c1) x1 _ (R1.out.below bb5) (by omega)).mono ?_; rintro e w6 ⟨y6, rfl, oo6, b6⟩; obtain ⟨Y6, cy6, rfl, -, -, -⟩ := oo6.form; have ap_t1_t2 := apart_of (fun k hk => (ot1_5.lt k hk).2) (fun k hk => (oo6.lt k hk).1); have nb_t2_paT := box_old_of tpaT_5 (fun k hk => (oo6.lt k hk).1); have nb_t2_paU := box_old_of tpaU_5 (fun k hk => (oo6.lt k hk).1); have ot2_6 : Own w6 w.heap.size (.slice Y6 x1.length cy6) x1 := oo6.mono bb5.size; have bb6 : Below w.heap.size w w6 := Below.then bb5 b6; have ot1_6 := ot1_5.below b6; have tpaT_6 := tpaT_5.below b6; have ya_paT_6 := tpaT_6.1; have yb_paT_6 := tpaT_6.2; have tpaU_6 := tpaU_5.below b6; have ya_paU_6 := tpaU_6.1; have yb_paU_6 := tpaU_6.2)
      | (go_at_call 13; refine (specLike s0 (.slice Y5 x0.length cy5) x0 s1 (.slice Y6 x1.length cy6) x1 _ ot1_6.rd ot2_6.rd).mono ?_; rintro e w7 ⟨rfl, b7⟩; have bb7 : Below w.heap.size w w7 := Below.then bb6 b7; have ot1_7 := ot1_6.below b7; have ot2_7 := ot2_6.below b7; have tpaT_7 := tpaT_6.below b7; have ya_paT_7 := tpaT_7.1; have yb_paT_7 := tpaT_7.2; have tpaU_7 := tpaU_6.below b7; have ya_paU_7 := tpaU_7.1; have yb_paU_7 := tpaU_7.2))
  clear bb4 tpaT_4 tpaU_4 oo5 tdpaT_4 ya_paT_4 yb_paT_4 tdpaU_4 ya_paU_4 yb_paU_4 bd_4 b5 oo6 ot1_5 tpaT_5 ya_paT_5 yb_paT_5 tpaU_5 ya_paU_5 yb_paU_5 bb5 b6 ot1_6 ot2_6 tpaT_6 ya_paT_6 yb_paT_6 tpaU_6 ya_paU_6 yb_paU_6 bb6 b7
  clear ot1_7 ot2_7
  go_wp2_with fail
  refine (toTour_any s0 (.slice A0 x0.length c0) x0 _ (R0.out.below bb7) (by omega)).mono ?_
  rintro e w8 ⟨y8, rfl, oo8, b8⟩
  obtain ⟨Y8, cy8, rfl, -, -, -⟩ := oo8.form
  have nb_x0_paT := box_old_of tpaT_7 (fun k hk => (oo8.lt k hk).1)
  have nb_x0_paU := box_old_of tpaU_7 (fun k hk => (oo8.lt k hk).1)
  have ox0_8 : Own w8 w.heap.size (.slice Y8 x0.length cy8) x0 := oo8.mono bb7.size
  clear oo8
  have bb8 : Below w.heap.size w w8 := Below.then bb7 b8
  have tpaT_8 := tpaT_7.below b8
  have ya_paT_8 := tpaT_8.1
  have yb_paT_8 := tpaT_8.2
  have tpaU_8 := tpaU_7.below b8
  have ya_paU_8 := tpaU_8.1
  have yb_paU_8 := tpaU_8.2
  clear tpaT_7 ya_paT_7 yb_paT_7 tpaU_7 ya_paU_7 yb_paU_7 bb7 b8
  have pre_paT_0 := (tpaT_8.below (below_alloc1 w8 (.cells #[.int .i64 s0, (.slice Y8 x0.length cy8)] 27))).1
  have pre_paT_1 := (tpaT_8.below (below_alloc1 w8 (.cells #[.int .i64 s0, (.slice Y8 x0.length cy8)] 27))).2
  have pre_paU_0 := (tpaU_8.below (below_alloc1 w8 (.cells #[.int .i64 s0, (.slice Y8 x0.length cy8)] 27))).1
  have pre_paU_1 := (tpaU_8.below (below_alloc1 w8 (.cells #[.int .i64 s0, (.slice Y8 x0.length cy8)] 27))).2
  go_wp2_with fail
  have b9 := below_alloc1 w8 (.cells #[.int .i64 s0, (.slice Y8 x0.length cy8)] 27)
  have tbx0_9 := TBox.new w8 s0 (.slice Y8 x0.length cy8) 27
  have nb_x0_bx0 := box_new_of (fun k hk => (ox0_8.lt k hk).2)
  have g9 : w8.heap.size < (w8.alloc (.cells #[.int .i64 s0, (.slice Y8 x0.length cy8)] 27)).heap.size := by simp
  generalize w8.alloc (.cells #[.int .i64 s0, (.slice Y8 x0.length cy8)] 27) = w9 at *
  have ya_bx0_9 := tbx0_9.1
  have yb_bx0_9 := tbx0_9.2
  clear g9
  have bb9 : Below w.heap.size w w9 := Below.then bb8 b9
  have ox0_9 := ox0_8.below b9
  have tpaT_9 := tpaT_8.below b9
  have ya_paT_9 := tpaT_9.1
  have yb_paT_9 := tpaT_9.2
  have tpaU_9 := tpaU_8.below b9
  have ya_paU_9 := tpaU_9.1
  have yb_paU_9 := tpaU_9.2
  clear ox0_8 tpaT_8 ya_paT_8 yb_paT_8 tpaU_8 ya_paU_8 yb_paU_8 bb8 b9
  clear pre_paT_0 pre_paT_1 pre_paU_0 pre_paU_1
  go_wp2_with fail
  refine (toTour_any s1 (.slice A1 x1.length c1) x1 _ (R1.out.below bb9) (by omega)).mono ?_
  rintro e w10 ⟨y10, rfl, oo10, b10⟩
  obtain ⟨Y10, cy10, rfl, -, -, -⟩ := oo10.form
  have ap_x0_x1 := apart_of (fun k hk => (ox0_9.lt k hk).2) (fun k hk => (oo10.lt k hk).1)
  have nb_x1_paT := box_old_of tpaT_9 (fun k hk => (oo10.lt k hk).1)
  have nb_x1_paU := box_old_of tpaU_9 (fun k hk => (oo10.lt k hk).1)
  have nb_x1_bx0 := box_old_of tbx0_9 (fun k hk => (oo10.lt k hk).1)
  have ox1_10 : Own w10 w.heap.size (.slice Y10 x1.length cy10) x1 := oo10.mono bb9.size
  clear oo10
  have bb10 : Below w.heap.size w w10 := Below.then bb9 b10
  have ox0_10 := ox0_9.below b10
  have tpaT_10 := tpaT_9.below b10
  have ya_paT_10 := tpaT_10.1
  have yb_paT_10 := tpaT_10.2
  have tpaU_10 := tpaU_9.below b10
  have ya_paU_10 := tpaU_10.1
  have yb_paU_10 := tpaU_10.2
  have tbx0_10 := tbx0_9.below b10
  have ya_bx0_10 := tbx0_10.1
  have yb_bx0_10 := tbx0_10.2
  clear ox0_9 tpaT_9 ya_paT_9 yb_paT_9 tpaU_9 ya_paU_9 yb_paU_9 tbx0_9 ya_bx0_9 yb_bx0_9 bb9 b10
  have pre_paT_0 := (tpaT_10.below (below_alloc1 w10 (.cells #[.int .i64 s1, (.slice Y10 x1.length cy10)] 27))).1
  have pre_paT_1 := (tpaT_10.below (below_alloc1 w10 (.cells #[.int .i64 s1, (.slice Y10 x1.length cy10)] 27))).2
  have pre_paU_0 := (tpaU_10.below (below_alloc1 w10 (.cells #[.int .i64 s1, (.slice Y10 x1.length cy10)] 27))).1
  have pre_paU_1 := (tpaU_10.below (below_alloc1 w10 (.cells #[.int .i64 s1, (.slice Y10 x1.length cy10)] 27))).2
  have pre_bx0_0 := (tbx0_10.below (below_alloc1 w10 (.cells #[.int .i64 s1, (.slice Y10 x1.length cy10)] 27))).1
  have pre_bx0_1 := (tbx0_10.below (below_alloc1 w10 (.cells #[.int .i64 s1, (.slice Y10 x1.length cy10)] 27))).2
  go_wp2_with fail
  have b11 := below_alloc1 w10 (.cells #[.int .i64 s1, (.slice Y10 x1.length cy10)] 27)
  have tbx1_11 := TBox.new w10 s1 (.slice Y10 x1.length cy10) 27
  have nb_x0_bx1 := box_new_of (fun k hk => (ox0_10.lt k hk).2)
  have nb_x1_bx1 := box_new_of (fun k hk => (ox1_10.lt k hk).2)
  have g11 : w10.heap.size < (w10.alloc (.cells #[.int .i64 s1, (.slice Y10 x1.length cy10)] 27)).heap.size := by simp
  generalize w10.alloc (.cells #[.int .i64 s1, (.slice Y10 x1.length cy10)] 27) = w11 at *
  have ya_bx1_11 := tbx1_11.1
  have yb_bx1_11 := tbx1_11.2
  clear g11
  have bb11 : Below w.heap.size w w11 := Below.then bb10 b11
  have ox0_11 := ox0_10.below b11
  have ox1_11 := ox1_10.below b11
  have tpaT_11 := tpaT_10.below b11
  have ya_paT_11 := tpaT_11.1
  have yb_paT_11 := tpaT_11.2
  have tpaU_11 := tpaU_10.below b11
  have ya_paU_11 := tpaU_11.1
  have yb_paU_11 := tpaU_11.2
  have tbx0_11 := tbx0_10.below b11
  have ya_bx0_11 := tbx0_11.1
  have yb_bx0_11 := tbx0_11.2
  clear ox0_10 ox1_10 tpaT_10 ya_paT_10 yb_paT_10 tpaU_10 ya_paU_10 yb_paU_10 tbx0_10 ya_bx0_10 yb_bx0_10 bb10 b11
  clear pre_paT_0 pre_paT_1 pre_paU_0 pre_paU_1 pre_bx0_0 pre_bx0_1
  go_wp2_with fail
  refine (implLike s0 (.slice Y8 x0.length cy8) x0 s1 (.slice Y10 x1.length cy10) x1 _ ox0_11.rd ox1_11.rd).mono ?_
  rintro e w12 ⟨rfl, b12⟩
  have bb12 : Below w.heap.size w w12 := Below.then bb11 b12
  have ox0_12 := ox0_11.below b12
  have ox1_12 := ox1_11.below b12
  have tpaT_12 := tpaT_11.below b12
  have ya_paT_12 := tpaT_12.1
  have yb_paT_12 := tpaT_12.2
  have tpaU_12 := tpaU_11.below b12
  have ya_paU_12 := tpaU_12.1
  have yb_paU_12 := tpaU_12.2
  have tbx0_12 := tbx0_11.below b12
  have ya_bx0_12 := tbx0_12.1
  have yb_bx0_12 := tbx0_12.2
  have tbx1_12 := tbx1_11.below b12
  have ya_bx1_12 := tbx1_12.1
  have yb_bx1_12 := tbx1_12.2
  clear ox0_11 ox1_11 tpaT_11 ya_paT_11 yb_paT_11 tpaU_11 ya_paU_11 yb_paU_11 tbx0_11 ya_bx0_11 yb_bx0_11 tbx1_11 ya_bx1_11 yb_bx1_11 bb11 b12
  go_wp2_with fail
  have bd_12 : Below w.heap.size w w12.drew := bb12.drew
  have odx0_12 : Own w12.drew w.heap.size (.slice Y8 x0.length cy8) x0 := ox0_12
  have odx1_12 : Own w12.drew w.heap.size (.slice Y10 x1.length cy10) x1 := ox1_12
  have tdpaT_12 : TBox w12.drew w.heap.size s0 (.slice A0 x0.length c0) := tpaT_12
  have tdpaU_12 : TBox w12.drew (w.heap.size + 1) s1 (.slice A1 x1.length c1) := tpaU_12
  have tdbx0_12 : TBox w12.drew w8.heap.size s0 (.slice Y8 x0.length cy8) := tbx0_12
  have tdbx1_12 : TBox w12.drew w10.heap.size s1 (.slice Y10 x1.length cy10) := tbx1_12
  go_region_held3 (fun W => W.cell? ⟨w.heap.size, 0, none⟩ = some (.int .i64 s0) ∧ W.cell? ⟨w.heap.size, 1, none⟩ = some (.slice A0 x0.length c0) ∧ W.cell? ⟨(w.heap.size + 1), 0, none⟩ = some (.int .i64 s1) ∧ W.cell? ⟨(w.heap.size + 1), 1, none⟩ = some (.slice A1 x1.length c1) ∧ W.cell? ⟨w8.heap.size, 0, none⟩ = some (.int .i64 s0) ∧ W.cell? ⟨w8.heap.size, 1, none⟩ = some (.slice Y8 x0.length cy8) ∧ W.cell? ⟨w10.heap.size, 0, none⟩ = some (.int .i64 s1) ∧ W.cell? ⟨w10.heap.size, 1, none⟩ = some (.slice Y10 x1.length cy10))
    (first | exact ⟨ya_paT_12, yb_paT_12, ya_paU_12, yb_paU_12, ya_bx0_12, yb_bx0_12, ya_bx1_12, yb_bx1_12⟩ | exact ⟨ya_paT_13, yb_paT_13, ya_paU_13, yb_paU_13, ya_bx0_13, yb_bx0_13, ya_bx1_13, yb_bx1_13⟩ | exact ⟨ya_paT_14, yb_paT_14, ya_paU_14, yb_paU_14, ya_bx0_14, yb_bx0_14, ya_bx1_14, yb_bx1_14⟩)
    (first
      | (go_at_call_of 10 s0; refine (toTour_any s0 (.slice A0 x0.length c0) x0 _ (R0.out.below bd_12) (by omega)).mono ?_; rintro e w13 ⟨y13, rfl, oo13, b13⟩; obtain ⟨Y13, cy13, rfl, -, -, -⟩ := oo13.form; have ap_x0_t3 := apart_of (fun k hk => (odx0_12.lt k hk).2) (fun k hk => (oo13.lt k hk).1); have ap_x1_t3 := apart_of (fun k hk => (odx1_12.lt k hk).2) (fun k hk => (oo13.lt k hk).1); have nb_t3_paT := box_old_of tdpaT_12 (fun k hk => (oo13.lt k hk).1); have nb_t3_paU := box_old_of tdpaU_12 (fun k hk => (oo13.lt k hk).1); have nb_t3_bx0 := box_old_of tdbx0_12 (fun k hk => (oo13.lt k hk).1); have nb_t3_bx1 := box_old_of tdbx1_12 (fun k hk => (oo13.lt k hk).1); have ot3_13 : Own w13 w.heap.size (.slice Y13 x0.length cy13) x0 := oo13.mono bd_12.size; have bb13 : Below w.heap.size w w13 := Below.then bd_12 b13; have ox0_13 := odx0_12.below b13; have ox1_13 := odx1_12.below b13; have tpaT_13 := tdpaT_12.below b13; have ya_paT_13 := tpaT_13.1; have yb_paT_13 := tpaT_13.2; have tpaU_13 := tdpaU_12.below b13; have ya_paU_13 := tpaU_13.1; have yb_paU_13 := tpaU_13.2; have tbx0_13 := tdbx0_12.below b13; have ya_bx0_13 := tbx0_13.1; have yb_bx0_13 := tbx0_13.2; have tbx1_13 := tdbx1_12.below b13; have ya_bx1_13 := tbx1_13.1; have yb_bx1_13 := tbx1_13.2)
      | (go_at_call 12; refine (eqTour_refl s0 (.slice Y8 x0.length cy8) (.slice Y13 x0.length cy13) x0 _ ox0_13.rd ot3_13.rd).mono ?_; rintro e w14 ⟨rfl, b14⟩; have bb14 : Below w.heap.size w w14 := Below.then bb13 b14; have ox0_14 := ox0_13.below b14; have ox1_14 := ox1_13.below b14; have ot3_14 := ot3_13.below b14; have tpaT_14 := tpaT_13.below b14; have ya_paT_14 := tpaT_14.1; have yb_paT_14 := tpaT_14.2; have tpaU_14 := tpaU_13.below b14; have ya_paU_14 := tpaU_14.1; have yb_paU_14 := tpaU_14.2; have tbx0_14 := tbx0_13.below b14; have ya_bx0_14 := tbx0_14.1; have yb_bx0_14 := tbx0_14.2; have tbx1_14 := tbx1_13.below b14; have ya_bx1_14 := tbx1_14.1; have yb_bx1_14 := tbx1_14.2))
  clear bb12 ox0_12 ox1_12 tpaT_12 tpaU_12 tbx0_12 tbx1_12 oo13 odx0_12 odx1_12 tdpaT_12 ya_paT_12 yb_paT_12 tdpaU_12 ya_paU_12 yb_paU_12 tdbx0_12 ya_bx0_12 yb_bx0_12 tdbx1_12 ya_bx1_12 yb_bx1_12 bd_12 b13 ox0_13 ox1_13 ot3_13 tpaT_13 ya_paT_13 yb_paT_13 tpaU_13 ya_paU_13 yb_paU_13 tbx0_13 ya_bx0_13 yb_bx0_13 tbx1_13 ya_bx1_13 yb_bx1_13 bb13 b14
  clear ot3_14
  go_wp2_with fail
  have bd_14 : Below w.heap.size w w14.drew := bb14.drew
  have odx0_14 : Own w14.drew w.heap.size (.slice Y8 x0.length cy8) x0 := ox0_14
  have odx1_14 : Own w14.drew w.heap.size (.slice Y10 x1.length cy10) x1 := ox1_14
  have tdpaT_14 : TBox w14.drew w.heap.size s0 (.slice A0 x0.length c0) := tpaT_14
  have tdpaU_14 : TBox w14.drew (w.heap.size + 1) s1 (.slice A1 x1.length c1) := tpaU_14
  have tdbx0_14 : TBox w14.drew w8.heap.size s0 (.slice Y8 x0.length cy8) := tbx0_14
  have tdbx1_14 : TBox w14.drew w10.heap.size s1 (.slice Y10 x1.length cy10) := tbx1_14
  go_region_held3 (fun W => W.cell? ⟨w.heap.size, 0, none⟩ = some (.int .i64 s0) ∧ W.cell? ⟨w.heap.size, 1, none⟩ = some (.slice A0 x0.length c0) ∧ W.cell? ⟨(w.heap.size + 1), 0, none⟩ = some (.int .i64 s1) ∧ W.cell? ⟨(w.heap.size + 1), 1, none⟩ = some (.slice A1 x1.length c1) ∧ W.cell? ⟨w8.heap.size, 0, none⟩ = some (.int .i64 s0) ∧ W.cell? ⟨w8.heap.size, 1, none⟩ = some (.slice Y8 x0.length cy8) ∧ W.cell? ⟨w10.heap.size, 0, none⟩ = some (.int .i64 s1) ∧ W.cell? ⟨w10.heap.size, 1, none⟩ = some (.slice Y10 x1.length cy10))
    (first | exact ⟨ya_paT_14, yb_paT_14, ya_paU_14, yb_paU_14, ya_bx0_14, yb_bx0_14, ya_bx1_14, yb_bx1_14⟩ | exact ⟨ya_paT_15, yb_paT_15, ya_paU_15, yb_paU_15, ya_bx0_15, yb_bx0_15, ya_bx1_15, yb_bx1_15⟩ | exact ⟨ya_paT_16, yb_paT_16, ya_paU_16, yb_paU_16, ya_bx0_16, yb_bx0_16, ya_bx1_16, yb_bx1_16⟩)
    (first
      | (go_at_call_of 10 s1; refine (toTour_any s1 (.slice A1 x1.length c1) x1 _ (R1.out.below bd_14) (by omega)).mono ?_; rintro e w15 ⟨y15, rfl, oo15, b15⟩; obtain ⟨Y15, cy15, rfl, -, -, -⟩ := oo15.form; have ap_x0_t4 := apart_of (fun k hk => (odx0_14.lt k hk).2) (fun k hk => (oo15.lt k hk).1); have ap_x1_t4 := apart_of (fun k hk => (odx1_14.lt k hk).2) (fun k hk => (oo15.lt k hk).1); have nb_t4_paT := box_old_of tdpaT_14 (fun k hk => (oo15.lt k hk).1); have nb_t4_paU := box_old_of tdpaU_14 (fun k hk => (oo15.lt k hk).1); have nb_t4_bx0 := box_old_of tdbx0_14 (fun k hk => (oo15.lt k hk).1); have nb_t4_bx1 := box_old_of tdbx1_14 (fun k hk => (oo15.lt k hk).1); have ot4_15 : Own w15 w.heap.size (.slice Y15 x1.length cy15) x1 := oo15.mono bd_14.size; have bb15 : Below w.heap.size w w15 := Below.then bd_14 b15; have ox0_15 := odx0_14.below b15; have ox1_15 := odx1_14.below b15; have tpaT_15 := tdpaT_14.below b15; have ya_paT_15 := tpaT_15.1; have yb_paT_15 := tpaT_15.2; have tpaU_15 := tdpaU_14.below b15; have ya_paU_15 := tpaU_15.1; have yb_paU_15 := tpaU_15.2; have tbx0_15 := tdbx0_14.below b15; have ya_bx0_15 := tbx0_15.1; have yb_bx0_15 := tbx0_15.2; have tbx1_15 := tdbx1_14.below b15; have ya_bx1_15 := tbx1_15.1; have yb_bx1_15 := tbx1_15.2)
      | (go_at_call 12; refine (eqTour_refl s1 (.slice Y10 x1.length cy10) (.slice Y15 x1.length cy15) x1 _ ox1_15.rd ot4_15.rd).mono ?_; rintro e w16 ⟨rfl, b16⟩; have bb16 : Below w.heap.size w w16 := Below.then bb15 b16; have ox0_16 := ox0_15.below b16; have ox1_16 := ox1_15.below b16; have ot4_16 := ot4_15.below b16; have tpaT_16 := tpaT_15.below b16; have ya_paT_16 := tpaT_16.1; have yb_paT_16 := tpaT_16.2; have tpaU_16 := tpaU_15.below b16; have ya_paU_16 := tpaU_16.1; have yb_paU_16 := tpaU_16.2; have tbx0_16 := tbx0_15.below b16; have ya_bx0_16 := tbx0_16.1; have yb_bx0_16 := tbx0_16.2; have tbx1_16 := tbx1_15.below b16; have ya_bx1_16 := tbx1_16.1; have yb_bx1_16 := tbx1_16.2))
  clear bb14 ox0_14 ox1_14 tpaT_14 tpaU_14 tbx0_14 tbx1_14 oo15 odx0_14 odx1_14 tdpaT_14 ya_paT_14 yb_paT_14 tdpaU_14 ya_paU_14 yb_paU_14 tdbx0_14 ya_bx0_14 yb_bx0_14 tdbx1_14 ya_bx1_14 yb_bx1_14 bd_14 b15 ox0_15 ox1_15 ot4_15 tpaT_15 ya_paT_15 yb_paT_15 tpaU_15 ya_paU_15 yb_paU_15 tbx0_15 ya_bx0_15 yb_bx0_15 tbx1_15 ya_bx1_15 yb_bx1_15 bb15 b16
  clear ot4_16
  go_wp2_with fail
  go_ret
  exact ⟨rfl, bb16⟩
end Go.Proofs.Ytceeplhkokajhab
