/- FnExactIsSymmetry: the walk of the law. -/
import Derived.Test.YtoblhnfnjagajabSym2
import Derived.Test.YtoblhnfnjagajabTourL
import Derived.Test.YtoblhnfnjagajabFrame
import Derived.Deep.RegionHeld3
namespace Go.Proofs.Ytoblhnfnjagajab
open Go.RowKit

set_option maxHeartbeats 2000000 in
theorem lawIsSymmetry (v0 v1 : Value) (w : World) (h0 : TourOpen w v0) (h1 : IntsV w v1) :
    Calls Try.prog 3 #[v0, v1] w fun e w' => e = .returned (.bool true) ∧ Below w.heap.size w w' := by
  obtain ⟨s0, x0, ⟨u0, rfl, r0⟩, i0, lo0, hi0⟩ := h0
  have R0 := Lib.hid r0
  have I0 := Lib.hid i0
  obtain ⟨A0, c0, rfl, -, -, -⟩ := r0
  clear i0
  obtain ⟨x1, r1, i1⟩ := h1
  have R1 := Lib.hid r1
  have I1 := Lib.hid i1
  obtain ⟨A1, c1, rfl, hl1, hm1, -⟩ := r1
  unfold maxLen at hm1
  clear i1
  by_cases hn1 : x1.length ≤ 1048576
  case neg =>
    have hd1 : decide ((1048576 : Int) < (x1.length : Int)) = true := by simp; omega
    go_enter Try.func3, Try.ntmps3
    go_wp2
    go_ret
    first | exact ⟨rfl, Below.refl _ _⟩ | exact ⟨rfl, below_alloc1 _ _⟩ | exact ⟨rfl, (below_alloc1 _ _).alloc (by simp) _⟩
  have hd1 : decide ((1048576 : Int) < (x1.length : Int)) = false := by simp; omega
  by_cases hn0 : 0 ≤ (1048576 : Int) - (x0.length : Int)
  case neg =>
    go_enter Try.func3, Try.ntmps3
    go_wp2_with fail
    have b1 := below_alloc1 w (.cells #[.int .i64 s0, (.slice A0 x0.length c0)] 24)
    have tpaT_1 := TBox.new w s0 (.slice A0 x0.length c0) 24
    have g1 : w.heap.size < (w.alloc (.cells #[.int .i64 s0, (.slice A0 x0.length c0)] 24)).heap.size := by simp
    generalize w.alloc (.cells #[.int .i64 s0, (.slice A0 x0.length c0)] 24) = w1 at *
    have ya_paT_1 := tpaT_1.1
    have yb_paT_1 := tpaT_1.2
    clear g1
    have bb1 : Below w.heap.size w w1 := b1
    clear b1
    go_wp2_with fail
    refine (szTour_any s0 (.slice A0 x0.length c0) x0 ((1048576 : Int)) _ (R0.out.below bb1) (by omega) (by omega)).mono ?_
    rintro e w2 ⟨rfl, b2⟩
    have bb2 : Below w.heap.size w w2 := Below.then bb1 b2
    have tpaT_2 := tpaT_1.below b2
    have ya_paT_2 := tpaT_2.1
    have yb_paT_2 := tpaT_2.2
    clear tpaT_1 ya_paT_1 yb_paT_1 bb1 b2
    rw [szI_no (by omega)]
    go_wp2_with fail
    go_ret
    exact ⟨rfl, bb2⟩
  go_enter Try.func3, Try.ntmps3
  go_wp2_with fail
  have b1 := below_alloc1 w (.cells #[.int .i64 s0, (.slice A0 x0.length c0)] 24)
  have tpaT_1 := TBox.new w s0 (.slice A0 x0.length c0) 24
  have g1 : w.heap.size < (w.alloc (.cells #[.int .i64 s0, (.slice A0 x0.length c0)] 24)).heap.size := by simp
  generalize w.alloc (.cells #[.int .i64 s0, (.slice A0 x0.length c0)] 24) = w1 at *
  have ya_paT_1 := tpaT_1.1
  have yb_paT_1 := tpaT_1.2
  clear g1
  have bb1 : Below w.heap.size w w1 := b1
  clear b1
  go_wp2_with fail
  refine (szTour_any s0 (.slice A0 x0.length c0) x0 ((1048576 : Int)) _ (R0.out.below bb1) (by omega) (by omega)).mono ?_
  rintro e w2 ⟨rfl, b2⟩
  have bb2 : Below w.heap.size w w2 := Below.then bb1 b2
  have tpaT_2 := tpaT_1.below b2
  have ya_paT_2 := tpaT_2.1
  have yb_paT_2 := tpaT_2.2
  clear tpaT_1 ya_paT_1 yb_paT_1 bb1 b2
  rw [szI_yes (by omega)]
  go_wp2_with fail
  refine (toTour_any s0 (.slice A0 x0.length c0) x0 _ (R0.out.below bb2) (by omega)).mono ?_
  rintro e w3 ⟨y3, rfl, oo3, b3⟩
  obtain ⟨Y3, cy3, rfl, -, -, -⟩ := oo3.form
  have nb_t1_paT := box_old_of tpaT_2 (fun k hk => (oo3.lt k hk).1)
  have ot1_3 : Own w3 w.heap.size (.slice Y3 x0.length cy3) x0 := oo3.mono bb2.size
  clear oo3
  have bb3 : Below w.heap.size w w3 := Below.then bb2 b3
  have tpaT_3 := tpaT_2.below b3
  have ya_paT_3 := tpaT_3.1
  have yb_paT_3 := tpaT_3.2
  clear tpaT_2 ya_paT_2 yb_paT_2 bb2 b3
  go_wp2_with fail
  refine (toIntS_any (.slice A1 x1.length c1) x1 _ (R1.out.below bb3) (by omega)).mono ?_
  rintro e w4 ⟨y4, rfl, oo4, b4⟩
  obtain ⟨Y4, cy4, rfl, -, -, -⟩ := oo4.form
  have ap_t1_t2 := apart_of (fun k hk => (ot1_3.lt k hk).2) (fun k hk => (oo4.lt k hk).1)
  have nb_t2_paT := box_old_of tpaT_3 (fun k hk => (oo4.lt k hk).1)
  have ot2_4 : Own w4 w.heap.size (.slice Y4 x1.length cy4) x1 := oo4.mono bb3.size
  clear oo4
  have bb4 : Below w.heap.size w w4 := Below.then bb3 b4
  have ot1_4 := ot1_3.below b4
  have tpaT_4 := tpaT_3.below b4
  have ya_paT_4 := tpaT_4.1
  have yb_paT_4 := tpaT_4.2
  clear ot1_3 tpaT_3 ya_paT_3 yb_paT_3 bb3 b4
  go_wp2_with fail
  refine (specSym s0 (.slice Y3 x0.length cy3) x0 (.slice Y4 x1.length cy4) x1 _ ot1_4.rd ot2_4.rd (by omega)).mono ?_
  rintro e w5 ⟨rfl, b5⟩
  have bb5 : Below w.heap.size w w5 := Below.then bb4 b5
  have ot1_5 := ot1_4.below b5
  have ot2_5 := ot2_4.below b5
  have tpaT_5 := tpaT_4.below b5
  have ya_paT_5 := tpaT_5.1
  have yb_paT_5 := tpaT_5.2
  clear ot1_4 ot2_4 tpaT_4 ya_paT_4 yb_paT_4 bb4 b5
  clear ot1_5 ot2_5
  go_wp2_with fail
  refine (toTour_any s0 (.slice A0 x0.length c0) x0 _ (R0.out.below bb5) (by omega)).mono ?_
  rintro e w6 ⟨y6, rfl, oo6, b6⟩
  obtain ⟨Y6, cy6, rfl, -, -, -⟩ := oo6.form
  have nb_x0_paT := box_old_of tpaT_5 (fun k hk => (oo6.lt k hk).1)
  have ox0_6 : Own w6 w.heap.size (.slice Y6 x0.length cy6) x0 := oo6.mono bb5.size
  clear oo6
  have bb6 : Below w.heap.size w w6 := Below.then bb5 b6
  have tpaT_6 := tpaT_5.below b6
  have ya_paT_6 := tpaT_6.1
  have yb_paT_6 := tpaT_6.2
  clear tpaT_5 ya_paT_5 yb_paT_5 bb5 b6
  have pre_paT_0 := (tpaT_6.below (below_alloc1 w6 (.cells #[.int .i64 s0, (.slice Y6 x0.length cy6)] 27))).1
  have pre_paT_1 := (tpaT_6.below (below_alloc1 w6 (.cells #[.int .i64 s0, (.slice Y6 x0.length cy6)] 27))).2
  go_wp2_with fail
  have b7 := below_alloc1 w6 (.cells #[.int .i64 s0, (.slice Y6 x0.length cy6)] 27)
  have tbx0_7 := TBox.new w6 s0 (.slice Y6 x0.length cy6) 27
  have nb_x0_bx0 := box_new_of (fun k hk => (ox0_6.lt k hk).2)
  have g7 : w6.heap.size < (w6.alloc (.cells #[.int .i64 s0, (.slice Y6 x0.length cy6)] 27)).heap.size := by simp
  generalize w6.alloc (.cells #[.int .i64 s0, (.slice Y6 x0.length cy6)] 27) = w7 at *
  have ya_bx0_7 := tbx0_7.1
  have yb_bx0_7 := tbx0_7.2
  clear g7
  have bb7 : Below w.heap.size w w7 := Below.then bb6 b7
  have ox0_7 := ox0_6.below b7
  have tpaT_7 := tpaT_6.below b7
  have ya_paT_7 := tpaT_7.1
  have yb_paT_7 := tpaT_7.2
  clear ox0_6 tpaT_6 ya_paT_6 yb_paT_6 bb6 b7
  clear pre_paT_0 pre_paT_1
  go_wp2_with fail
  refine (toIntS_any (.slice A1 x1.length c1) x1 _ (R1.out.below bb7) (by omega)).mono ?_
  rintro e w8 ⟨y8, rfl, oo8, b8⟩
  obtain ⟨Y8, cy8, rfl, -, -, -⟩ := oo8.form
  have ap_x0_x1 := apart_of (fun k hk => (ox0_7.lt k hk).2) (fun k hk => (oo8.lt k hk).1)
  have nb_x1_paT := box_old_of tpaT_7 (fun k hk => (oo8.lt k hk).1)
  have nb_x1_bx0 := box_old_of tbx0_7 (fun k hk => (oo8.lt k hk).1)
  have ox1_8 : Own w8 w.heap.size (.slice Y8 x1.length cy8) x1 := oo8.mono bb7.size
  clear oo8
  have bb8 : Below w.heap.size w w8 := Below.then bb7 b8
  have ox0_8 := ox0_7.below b8
  have tpaT_8 := tpaT_7.below b8
  have ya_paT_8 := tpaT_8.1
  have yb_paT_8 := tpaT_8.2
  have tbx0_8 := tbx0_7.below b8
  have ya_bx0_8 := tbx0_8.1
  have yb_bx0_8 := tbx0_8.2
  clear ox0_7 tpaT_7 ya_paT_7 yb_paT_7 tbx0_7 ya_bx0_7 yb_bx0_7 bb7 b8
  go_wp2_with fail
  refine (implSym s0 (.slice Y6 x0.length cy6) x0 (.slice Y8 x1.length cy8) x1 _ ox0_8.rd ox1_8.rd (by omega)).mono ?_
  rintro e w9 ⟨rfl, b9⟩
  have bb9 : Below w.heap.size w w9 := Below.then bb8 b9
  have ox0_9 := ox0_8.below b9
  have ox1_9 := ox1_8.below b9
  have tpaT_9 := tpaT_8.below b9
  have ya_paT_9 := tpaT_9.1
  have yb_paT_9 := tpaT_9.2
  have tbx0_9 := tbx0_8.below b9
  have ya_bx0_9 := tbx0_9.1
  have yb_bx0_9 := tbx0_9.2
  clear ox0_8 ox1_8 tpaT_8 ya_paT_8 yb_paT_8 tbx0_8 ya_bx0_8 yb_bx0_8 bb8 b9
  go_wp2_with fail
  have bd_9 : Below w.heap.size w w9.drew := bb9.drew
  have odx0_9 : Own w9.drew w.heap.size (.slice Y6 x0.length cy6) x0 := ox0_9
  have odx1_9 : Own w9.drew w.heap.size (.slice Y8 x1.length cy8) x1 := ox1_9
  have tdpaT_9 : TBox w9.drew w.heap.size s0 (.slice A0 x0.length c0) := tpaT_9
  have tdbx0_9 : TBox w9.drew w6.heap.size s0 (.slice Y6 x0.length cy6) := tbx0_9
  go_region_held3 (fun W => W.cell? ⟨w.heap.size, 0, none⟩ = some (.int .i64 s0) ∧ W.cell? ⟨w.heap.size, 1, none⟩ = some (.slice A0 x0.length c0) ∧ W.cell? ⟨w6.heap.size, 0, none⟩ = some (.int .i64 s0) ∧ W.cell? ⟨w6.heap.size, 1, none⟩ = some (.slice Y6 x0.length cy6))
    (first | exact ⟨ya_paT_9, yb_paT_9, ya_bx0_9, yb_bx0_9⟩ | exact ⟨ya_paT_10, yb_paT_10, ya_bx0_10, yb_bx0_10⟩ | exact ⟨ya_paT_11, yb_paT_11, ya_bx0_11, yb_bx0_11⟩)
    (first
      | (go_at_call 17; refine (toTour_any s0 (.slice A0 x0.length c0) x0 _ (R0.out.below bd_9) (by omega)).mono ?_; rintro e w10 ⟨y10, rfl, oo10, b10⟩; obtain ⟨Y10, cy10, rfl, -, -, -⟩ := oo10.form; have ap_x0_t3 := apart_of (fun k hk => (odx0_9.lt k hk).2) (fun k hk => (oo10.lt k hk).1); have ap_x1_t3 := apart_of (fun k hk => (odx1_9.lt k hk).2) (fun k hk => (oo10.lt k hk).1); have nb_t3_paT := box_old_of tdpaT_9 (fun k hk => (oo10.lt k hk).1); have nb_t3_bx0 := box_old_of tdbx0_9 (fun k hk => (oo10.lt k hk).1); have ot3_10 : Own w10 w.heap.size (.slice Y10 x0.length cy10) x0 := oo10.mono bd_9.size; have bb10 : Below w.heap.size w w10 := Below.then bd_9 b10; have ox0_10 := odx0_9.below b10; have ox1_10 := odx1_9.below b10; have tpaT_10 := tdpaT_9.below b10; have ya_paT_10 := tpaT_10.1; have yb_paT_10 := tpaT_10.2; have tbx0_10 := tdbx0_9.below b10; have ya_bx0_10 := tbx0_10.1; have yb_bx0_10 := tbx0_10.2)
      | (go_at_call 20; refine (eqTour_refl s0 (.slice Y6 x0.length cy6) (.slice Y10 x0.length cy10) x0 _ ox0_10.rd ot3_10.rd).mono ?_; rintro e w11 ⟨rfl, b11⟩; have bb11 : Below w.heap.size w w11 := Below.then bb10 b11; have ox0_11 := ox0_10.below b11; have ox1_11 := ox1_10.below b11; have ot3_11 := ot3_10.below b11; have tpaT_11 := tpaT_10.below b11; have ya_paT_11 := tpaT_11.1; have yb_paT_11 := tpaT_11.2; have tbx0_11 := tbx0_10.below b11; have ya_bx0_11 := tbx0_11.1; have yb_bx0_11 := tbx0_11.2))
  clear bb9 ox0_9 ox1_9 tpaT_9 tbx0_9 oo10 odx0_9 odx1_9 tdpaT_9 ya_paT_9 yb_paT_9 tdbx0_9 ya_bx0_9 yb_bx0_9 bd_9 b10 ox0_10 ox1_10 ot3_10 tpaT_10 ya_paT_10 yb_paT_10 tbx0_10 ya_bx0_10 yb_bx0_10 bb10 b11
  clear ot3_11
  go_wp2_with fail
  refine (toIntS_any (.slice A1 x1.length c1) x1 _ (R1.out.below bb11) (by omega)).mono ?_
  rintro e w12 ⟨y12, rfl, oo12, b12⟩
  obtain ⟨Y12, cy12, rfl, -, -, -⟩ := oo12.form
  have ap_x0_t4 := apart_of (fun k hk => (ox0_11.lt k hk).2) (fun k hk => (oo12.lt k hk).1)
  have ap_x1_t4 := apart_of (fun k hk => (ox1_11.lt k hk).2) (fun k hk => (oo12.lt k hk).1)
  have nb_t4_paT := box_old_of tpaT_11 (fun k hk => (oo12.lt k hk).1)
  have nb_t4_bx0 := box_old_of tbx0_11 (fun k hk => (oo12.lt k hk).1)
  have ot4_12 : Own w12 w.heap.size (.slice Y12 x1.length cy12) x1 := oo12.mono bb11.size
  clear oo12
  have bb12 : Below w.heap.size w w12 := Below.then bb11 b12
  have ox0_12 := ox0_11.below b12
  have ox1_12 := ox1_11.below b12
  have tpaT_12 := tpaT_11.below b12
  have ya_paT_12 := tpaT_12.1
  have yb_paT_12 := tpaT_12.2
  have tbx0_12 := tbx0_11.below b12
  have ya_bx0_12 := tbx0_12.1
  have yb_bx0_12 := tbx0_12.2
  clear ox0_11 ox1_11 tpaT_11 ya_paT_11 yb_paT_11 tbx0_11 ya_bx0_11 yb_bx0_11 bb11 b12
  go_wp2_with fail
  refine (of_drew (eqIntS_refl (.slice Y8 x1.length cy8) (.slice Y12 x1.length cy12) x1 _ ox1_12.rd ot4_12.rd)).mono ?_
  rintro e w13 ⟨rfl, b13⟩
  have bb13 : Below w.heap.size w w13 := Below.then bb12 b13
  have ox0_13 := ox0_12.below b13
  have ox1_13 := ox1_12.below b13
  have ot4_13 := ot4_12.below b13
  have tpaT_13 := tpaT_12.below b13
  have ya_paT_13 := tpaT_13.1
  have yb_paT_13 := tpaT_13.2
  have tbx0_13 := tbx0_12.below b13
  have ya_bx0_13 := tbx0_13.1
  have yb_bx0_13 := tbx0_13.2
  clear ox0_12 ox1_12 ot4_12 tpaT_12 ya_paT_12 yb_paT_12 tbx0_12 ya_bx0_12 yb_bx0_12 bb12 b13
  clear ot4_13
  go_wp2_with fail
  go_ret
  exact ⟨rfl, bb13⟩
end Go.Proofs.Ytoblhnfnjagajab
