/- FnExactRotationalTour: the walk of the law. -/
import Derived.Test.YtoblhnfnjagajaaRot2
import Derived.Test.YtoblhnfnjagajaaTourL
import Derived.Test.YtoblhnfnjagajaaFrame
import Derived.Test.YtoblhnfnjagajaaMarkR
namespace Go.Proofs.Ytoblhnfnjagajaa
open Go.RowKit

set_option maxHeartbeats 2000000 in
theorem lawRotationalTour (v0 v1 : Value) (w : World) (h0 : IntV v0) (h1 : IntsV w v1) :
    Calls Try.prog 9 #[v0, v1] w fun e w' => e = .returned (.bool true) ∧ Below w.heap.size w w' := by
  obtain ⟨a0, rfl, lo0, hi0⟩ := h0
  obtain ⟨x1, r1, i1⟩ := h1
  have R1 := Lib.hid r1
  have I1 := Lib.hid i1
  obtain ⟨A1, c1, rfl, hl1, hm1, -⟩ := r1
  unfold maxLen at hm1
  clear i1
  by_cases hn1 : x1.length ≤ 1048576
  case neg =>
    have hd1 : decide ((1048576 : Int) < (x1.length : Int)) = true := by simp; omega
    go_enter Try.func9, Try.ntmps9
    go_wp2
    go_ret
    first | exact ⟨rfl, Below.refl _ _⟩ | exact ⟨rfl, below_alloc1 _ _⟩ | exact ⟨rfl, (below_alloc1 _ _).alloc (by simp) _⟩
  have hd1 : decide ((1048576 : Int) < (x1.length : Int)) = false := by simp; omega
  go_enter Try.func9, Try.ntmps9
  go_wp2_with fail
  refine (toIntS_any (.slice A1 x1.length c1) x1 _ R1.out (by omega)).mono ?_
  rintro e w1 ⟨y1, rfl, oo1, b1⟩
  obtain ⟨Y1, cy1, rfl, -, -, -⟩ := oo1.form
  have ot1_1 : Own w1 w.heap.size (.slice Y1 x1.length cy1) x1 := oo1.mono (Nat.le_refl _)
  clear oo1
  have bb1 : Below w.heap.size w w1 := b1
  clear b1
  go_wp2_with fail
  refine (specRot a0 (.slice Y1 x1.length cy1) x1 _ ot1_1.rd).mono ?_
  rintro e w2 ⟨y2, rfl, oy2, b2⟩
  obtain ⟨Yy2, cy2, rfl, -, -, -⟩ := oy2.form
  have ap_t1_w0 := apart_of (fun k hk => (ot1_1.lt k hk).2) (fun k hk => (oy2.lt k hk).1)
  have ow0_2 : Own w2 w.heap.size (.slice Yy2 (rtL a0 x1).length cy2) (rtL a0 x1) := oy2.mono bb1.size
  clear oy2
  have bb2 : Below w.heap.size w w2 := Below.then bb1 b2
  have ot1_2 := ot1_1.below b2
  clear ot1_1 bb1 b2
  clear ot1_2
  go_wp2_with fail
  have b3 := below_alloc1 w2 (.cells #[.int .i64 (rtS a0 x1), (.slice Yy2 (rtL a0 x1).length cy2)] 65)
  have tbw0_3 := TBox.new w2 (rtS a0 x1) (.slice Yy2 (rtL a0 x1).length cy2) 65
  have nb_w0_bw0 := box_new_of (fun k hk => (ow0_2.lt k hk).2)
  have g3 : w2.heap.size < (w2.alloc (.cells #[.int .i64 (rtS a0 x1), (.slice Yy2 (rtL a0 x1).length cy2)] 65)).heap.size := by simp
  generalize w2.alloc (.cells #[.int .i64 (rtS a0 x1), (.slice Yy2 (rtL a0 x1).length cy2)] 65) = w3 at *
  have ya_bw0_3 := tbw0_3.1
  have yb_bw0_3 := tbw0_3.2
  clear g3
  have bb3 : Below w.heap.size w w3 := Below.then bb2 b3
  have ow0_3 := ow0_2.below b3
  clear ow0_2 bb2 b3
  go_wp2_with fail
  refine (toIntS_any (.slice A1 x1.length c1) x1 _ (R1.out.below bb3) (by omega)).mono ?_
  rintro e w4 ⟨y4, rfl, oo4, b4⟩
  obtain ⟨Y4, cy4, rfl, -, -, -⟩ := oo4.form
  have ap_w0_x1 := apart_of (fun k hk => (ow0_3.lt k hk).2) (fun k hk => (oo4.lt k hk).1)
  have nb_x1_bw0 := box_old_of tbw0_3 (fun k hk => (oo4.lt k hk).1)
  have ox1_4 : Own w4 w.heap.size (.slice Y4 x1.length cy4) x1 := oo4.mono bb3.size
  clear oo4
  have bb4 : Below w.heap.size w w4 := Below.then bb3 b4
  have ow0_4 := ow0_3.below b4
  have tbw0_4 := tbw0_3.below b4
  have ya_bw0_4 := tbw0_4.1
  have yb_bw0_4 := tbw0_4.2
  clear ow0_3 tbw0_3 ya_bw0_3 yb_bw0_3 bb3 b4
  go_wp2_with fail
  refine (implRot a0 (.slice Y4 x1.length cy4) x1 _ ox1_4.rd).mono ?_
  rintro e w5 ⟨y5, rfl, oy5, b5⟩
  obtain ⟨Yy5, cy5, rfl, -, -, -⟩ := oy5.form
  have ap_w0_g0 := apart_of (fun k hk => (ow0_4.lt k hk).2) (fun k hk => (oy5.lt k hk).1)
  have ap_x1_g0 := apart_of (fun k hk => (ox1_4.lt k hk).2) (fun k hk => (oy5.lt k hk).1)
  have nb_g0_bw0 := box_old_of tbw0_4 (fun k hk => (oy5.lt k hk).1)
  have og0_5 : Own w5 w.heap.size (.slice Yy5 (rtL a0 x1).length cy5) (rtL a0 x1) := oy5.mono bb4.size
  clear oy5
  have bb5 : Below w.heap.size w w5 := Below.then bb4 b5
  have ow0_5 := ow0_4.below b5
  have ox1_5 := ox1_4.below b5
  have tbw0_5 := tbw0_4.below b5
  have ya_bw0_5 := tbw0_5.1
  have yb_bw0_5 := tbw0_5.2
  clear ow0_4 ox1_4 tbw0_4 ya_bw0_4 yb_bw0_4 bb4 b5
  have pre_bw0_0 := (tbw0_5.below (below_alloc1 w5 (.cells #[.int .i64 (rtS a0 x1), (.slice Yy5 (rtL a0 x1).length cy5)] 65))).1
  have pre_bw0_1 := (tbw0_5.below (below_alloc1 w5 (.cells #[.int .i64 (rtS a0 x1), (.slice Yy5 (rtL a0 x1).length cy5)] 65))).2
  go_wp2_with fail
  have b6 := below_alloc1 w5 (.cells #[.int .i64 (rtS a0 x1), (.slice Yy5 (rtL a0 x1).length cy5)] 65)
  have tbg0_6 := TBox.new w5 (rtS a0 x1) (.slice Yy5 (rtL a0 x1).length cy5) 65
  have nb_w0_bg0 := box_new_of (fun k hk => (ow0_5.lt k hk).2)
  have nb_x1_bg0 := box_new_of (fun k hk => (ox1_5.lt k hk).2)
  have nb_g0_bg0 := box_new_of (fun k hk => (og0_5.lt k hk).2)
  have g6 : w5.heap.size < (w5.alloc (.cells #[.int .i64 (rtS a0 x1), (.slice Yy5 (rtL a0 x1).length cy5)] 65)).heap.size := by simp
  generalize w5.alloc (.cells #[.int .i64 (rtS a0 x1), (.slice Yy5 (rtL a0 x1).length cy5)] 65) = w6 at *
  have ya_bg0_6 := tbg0_6.1
  have yb_bg0_6 := tbg0_6.2
  clear g6
  have bb6 : Below w.heap.size w w6 := Below.then bb5 b6
  have ow0_6 := ow0_5.below b6
  have ox1_6 := ox1_5.below b6
  have og0_6 := og0_5.below b6
  have tbw0_6 := tbw0_5.below b6
  have ya_bw0_6 := tbw0_6.1
  have yb_bw0_6 := tbw0_6.2
  clear ow0_5 ox1_5 og0_5 tbw0_5 ya_bw0_5 yb_bw0_5 bb5 b6
  clear pre_bw0_0 pre_bw0_1
  go_wp2_with fail
  refine (eqTour_refl (rtS a0 x1) (.slice Yy5 (rtL a0 x1).length cy5) (.slice Yy2 (rtL a0 x1).length cy2) (rtL a0 x1) _ og0_6.rd ow0_6.rd).mono ?_
  rintro e w7 ⟨rfl, b7⟩
  have bb7 : Below w.heap.size w w7 := Below.then bb6 b7
  have ow0_7 := ow0_6.below b7
  have ox1_7 := ox1_6.below b7
  have og0_7 := og0_6.below b7
  have tbw0_7 := tbw0_6.below b7
  have ya_bw0_7 := tbw0_7.1
  have yb_bw0_7 := tbw0_7.2
  have tbg0_7 := tbg0_6.below b7
  have ya_bg0_7 := tbg0_7.1
  have yb_bg0_7 := tbg0_7.2
  clear ow0_6 ox1_6 og0_6 tbw0_6 ya_bw0_6 yb_bw0_6 tbg0_6 ya_bg0_6 yb_bg0_6 bb6 b7
  go_wp2_with fail
  refine (toIntS_any (.slice A1 x1.length c1) x1 _ (R1.out.below bb7) (by omega)).mono ?_
  rintro e w8 ⟨y8, rfl, oo8, b8⟩
  obtain ⟨Y8, cy8, rfl, -, -, -⟩ := oo8.form
  have ap_w0_t2 := apart_of (fun k hk => (ow0_7.lt k hk).2) (fun k hk => (oo8.lt k hk).1)
  have ap_x1_t2 := apart_of (fun k hk => (ox1_7.lt k hk).2) (fun k hk => (oo8.lt k hk).1)
  have ap_g0_t2 := apart_of (fun k hk => (og0_7.lt k hk).2) (fun k hk => (oo8.lt k hk).1)
  have nb_t2_bw0 := box_old_of tbw0_7 (fun k hk => (oo8.lt k hk).1)
  have nb_t2_bg0 := box_old_of tbg0_7 (fun k hk => (oo8.lt k hk).1)
  have ot2_8 : Own w8 w.heap.size (.slice Y8 x1.length cy8) x1 := oo8.mono bb7.size
  clear oo8
  have bb8 : Below w.heap.size w w8 := Below.then bb7 b8
  have ow0_8 := ow0_7.below b8
  have ox1_8 := ox1_7.below b8
  have og0_8 := og0_7.below b8
  have tbw0_8 := tbw0_7.below b8
  have ya_bw0_8 := tbw0_8.1
  have yb_bw0_8 := tbw0_8.2
  have tbg0_8 := tbg0_7.below b8
  have ya_bg0_8 := tbg0_8.1
  have yb_bg0_8 := tbg0_8.2
  clear ow0_7 ox1_7 og0_7 tbw0_7 ya_bw0_7 yb_bw0_7 tbg0_7 ya_bg0_7 yb_bg0_7 bb7 b8
  go_wp2_with fail
  refine (of_drew (eqIntS_refl (.slice Y4 x1.length cy4) (.slice Y8 x1.length cy8) x1 _ ox1_8.rd ot2_8.rd)).mono ?_
  rintro e w9 ⟨rfl, b9⟩
  have bb9 : Below w.heap.size w w9 := Below.then bb8 b9
  have ow0_9 := ow0_8.below b9
  have ox1_9 := ox1_8.below b9
  have og0_9 := og0_8.below b9
  have ot2_9 := ot2_8.below b9
  have tbw0_9 := tbw0_8.below b9
  have ya_bw0_9 := tbw0_9.1
  have yb_bw0_9 := tbw0_9.2
  have tbg0_9 := tbg0_8.below b9
  have ya_bg0_9 := tbg0_9.1
  have yb_bg0_9 := tbg0_9.2
  clear ow0_8 ox1_8 og0_8 ot2_8 tbw0_8 ya_bw0_8 yb_bw0_8 tbg0_8 ya_bg0_8 yb_bg0_8 bb8 b9
  clear ot2_9
  go_wp2_with fail
  refine (markIntS_any (.slice Y4 x1.length cy4) x1 w.heap.size (1 : Int) _ ox1_9 (by omega) (by omega) (by omega)).mono ?_
  rintro e w10 ⟨rfl, om10, g10⟩
  have bb10 : Below w.heap.size w w10 := Below.grown bb9 g10 bb9.size (fun k hk => (ox1_9.lt k hk).1)
  have ow0_10 := ow0_9.kept g10 ap_w0_x1
  have og0_10 := og0_9.kept g10 (apart_symm ap_x1_g0)
  have tbw0_10 := tbw0_9.kept g10 (nb_ne nb_x1_bw0)
  have ya_bw0_10 := tbw0_10.1
  have yb_bw0_10 := tbw0_10.2
  have tbg0_10 := tbg0_9.kept g10 (nb_ne nb_x1_bg0)
  have ya_bg0_10 := tbg0_10.1
  have yb_bg0_10 := tbg0_10.2
  clear bb9 ow0_9 og0_9 tbw0_9 ya_bw0_9 yb_bw0_9 tbg0_9 ya_bg0_9 yb_bg0_9 ox1_9 g10
  go_wp2_with fail
  refine (eqTour_refl (rtS a0 x1) (.slice Yy5 (rtL a0 x1).length cy5) (.slice Yy2 (rtL a0 x1).length cy2) (rtL a0 x1) _ og0_10.rd ow0_10.rd).mono ?_
  rintro e w11 ⟨rfl, b11⟩
  have bb11 : Below w.heap.size w w11 := Below.then bb10 b11
  have ow0_11 := ow0_10.below b11
  have ox1_11 := om10.below b11
  have og0_11 := og0_10.below b11
  have tbw0_11 := tbw0_10.below b11
  have ya_bw0_11 := tbw0_11.1
  have yb_bw0_11 := tbw0_11.2
  have tbg0_11 := tbg0_10.below b11
  have ya_bg0_11 := tbg0_11.1
  have yb_bg0_11 := tbg0_11.2
  clear ow0_10 om10 og0_10 tbw0_10 ya_bw0_10 yb_bw0_10 tbg0_10 ya_bg0_10 yb_bg0_10 bb10 b11
  go_wp2_with fail
  refine (markTour_any (rtS a0 x1) (.slice Yy5 (rtL a0 x1).length cy5) (rtL a0 x1) w.heap.size (1 : Int) _ og0_11 (by have := rtL_len a0 x1; omega) (by omega) (by omega)).mono ?_
  rintro e w12 ⟨rfl, om12, g12⟩
  have bb12 : Below w.heap.size w w12 := Below.grown bb11 g12 bb11.size (fun k hk => (og0_11.lt k hk).1)
  have ow0_12 := ow0_11.kept g12 ap_w0_g0
  have ox1_12 := ox1_11.kept g12 ap_x1_g0
  have tbw0_12 := tbw0_11.kept g12 (nb_ne nb_g0_bw0)
  have ya_bw0_12 := tbw0_12.1
  have yb_bw0_12 := tbw0_12.2
  have tbg0_12 := tbg0_11.kept g12 (nb_ne nb_g0_bg0)
  have ya_bg0_12 := tbg0_12.1
  have yb_bg0_12 := tbg0_12.2
  clear bb11 ow0_11 ox1_11 tbw0_11 ya_bw0_11 yb_bw0_11 tbg0_11 ya_bg0_11 yb_bg0_11 og0_11 g12
  go_wp2_with fail
  refine (heldMarksTour_any (rtS a0 x1) (.slice Yy5 (rtL a0 x1).length cy5) (rtL a0 x1).length (1 : Int) _ om12.rd (by have := rtL_len a0 x1; omega) (by omega) (by omega)).mono ?_
  rintro e w13 ⟨rfl, b13⟩
  have bb13 : Below w.heap.size w w13 := Below.then bb12 b13
  have ow0_13 := ow0_12.below b13
  have ox1_13 := ox1_12.below b13
  have og0_13 := om12.below b13
  have tbw0_13 := tbw0_12.below b13
  have ya_bw0_13 := tbw0_13.1
  have yb_bw0_13 := tbw0_13.2
  have tbg0_13 := tbg0_12.below b13
  have ya_bg0_13 := tbg0_13.1
  have yb_bg0_13 := tbg0_13.2
  clear ow0_12 ox1_12 om12 tbw0_12 ya_bw0_12 yb_bw0_12 tbg0_12 ya_bg0_12 yb_bg0_12 bb12 b13
  go_wp2_with fail
  refine (toIntS_any (.slice A1 x1.length c1) x1 _ (R1.out.below bb13) (by omega)).mono ?_
  rintro e w14 ⟨y14, rfl, oo14, b14⟩
  obtain ⟨Y14, cy14, rfl, -, -, -⟩ := oo14.form
  have ap_w0_t3 := apart_of (fun k hk => (ow0_13.lt k hk).2) (fun k hk => (oo14.lt k hk).1)
  have ap_x1_t3 := apart_of (fun k hk => (ox1_13.lt k hk).2) (fun k hk => (oo14.lt k hk).1)
  have ap_g0_t3 := apart_of (fun k hk => (og0_13.lt k hk).2) (fun k hk => (oo14.lt k hk).1)
  have nb_t3_bw0 := box_old_of tbw0_13 (fun k hk => (oo14.lt k hk).1)
  have nb_t3_bg0 := box_old_of tbg0_13 (fun k hk => (oo14.lt k hk).1)
  have ot3_14 : Own w14 w.heap.size (.slice Y14 x1.length cy14) x1 := oo14.mono bb13.size
  clear oo14
  have bb14 : Below w.heap.size w w14 := Below.then bb13 b14
  have ow0_14 := ow0_13.below b14
  have ox1_14 := ox1_13.below b14
  have og0_14 := og0_13.below b14
  have tbw0_14 := tbw0_13.below b14
  have ya_bw0_14 := tbw0_14.1
  have yb_bw0_14 := tbw0_14.2
  have tbg0_14 := tbg0_13.below b14
  have ya_bg0_14 := tbg0_14.1
  have yb_bg0_14 := tbg0_14.2
  clear ow0_13 ox1_13 og0_13 tbw0_13 ya_bw0_13 yb_bw0_13 tbg0_13 ya_bg0_13 yb_bg0_13 bb13 b14
  go_wp2_with fail
  refine (implRot a0 (.slice Y14 x1.length cy14) x1 _ ot3_14.rd).mono ?_
  rintro e w15 ⟨y15, rfl, oy15, b15⟩
  obtain ⟨Yy15, cy15, rfl, -, -, -⟩ := oy15.form
  have ap_w0_h0 := apart_of (fun k hk => (ow0_14.lt k hk).2) (fun k hk => (oy15.lt k hk).1)
  have ap_x1_h0 := apart_of (fun k hk => (ox1_14.lt k hk).2) (fun k hk => (oy15.lt k hk).1)
  have ap_g0_h0 := apart_of (fun k hk => (og0_14.lt k hk).2) (fun k hk => (oy15.lt k hk).1)
  have ap_t3_h0 := apart_of (fun k hk => (ot3_14.lt k hk).2) (fun k hk => (oy15.lt k hk).1)
  have nb_h0_bw0 := box_old_of tbw0_14 (fun k hk => (oy15.lt k hk).1)
  have nb_h0_bg0 := box_old_of tbg0_14 (fun k hk => (oy15.lt k hk).1)
  have oh0_15 : Own w15 w.heap.size (.slice Yy15 (rtL a0 x1).length cy15) (rtL a0 x1) := oy15.mono bb14.size
  clear oy15
  have bb15 : Below w.heap.size w w15 := Below.then bb14 b15
  have ow0_15 := ow0_14.below b15
  have ox1_15 := ox1_14.below b15
  have og0_15 := og0_14.below b15
  have ot3_15 := ot3_14.below b15
  have tbw0_15 := tbw0_14.below b15
  have ya_bw0_15 := tbw0_15.1
  have yb_bw0_15 := tbw0_15.2
  have tbg0_15 := tbg0_14.below b15
  have ya_bg0_15 := tbg0_15.1
  have yb_bg0_15 := tbg0_15.2
  clear ow0_14 ox1_14 og0_14 ot3_14 tbw0_14 ya_bw0_14 yb_bw0_14 tbg0_14 ya_bg0_14 yb_bg0_14 bb14 b15
  clear ot3_15
  have pre_bw0_0 := (tbw0_15.below (below_alloc1 w15 (.cells #[.int .i64 (rtS a0 x1), (.slice Yy15 (rtL a0 x1).length cy15)] 65))).1
  have pre_bw0_1 := (tbw0_15.below (below_alloc1 w15 (.cells #[.int .i64 (rtS a0 x1), (.slice Yy15 (rtL a0 x1).length cy15)] 65))).2
  have pre_bg0_0 := (tbg0_15.below (below_alloc1 w15 (.cells #[.int .i64 (rtS a0 x1), (.slice Yy15 (rtL a0 x1).length cy15)] 65))).1
  have pre_bg0_1 := (tbg0_15.below (below_alloc1 w15 (.cells #[.int .i64 (rtS a0 x1), (.slice Yy15 (rtL a0 x1).length cy15)] 65))).2
  go_wp2_with fail
  have b16 := below_alloc1 w15 (.cells #[.int .i64 (rtS a0 x1), (.slice Yy15 (rtL a0 x1).length cy15)] 65)
  have tbh0_16 := TBox.new w15 (rtS a0 x1) (.slice Yy15 (rtL a0 x1).length cy15) 65
  have nb_w0_bh0 := box_new_of (fun k hk => (ow0_15.lt k hk).2)
  have nb_x1_bh0 := box_new_of (fun k hk => (ox1_15.lt k hk).2)
  have nb_g0_bh0 := box_new_of (fun k hk => (og0_15.lt k hk).2)
  have nb_h0_bh0 := box_new_of (fun k hk => (oh0_15.lt k hk).2)
  have g16 : w15.heap.size < (w15.alloc (.cells #[.int .i64 (rtS a0 x1), (.slice Yy15 (rtL a0 x1).length cy15)] 65)).heap.size := by simp
  generalize w15.alloc (.cells #[.int .i64 (rtS a0 x1), (.slice Yy15 (rtL a0 x1).length cy15)] 65) = w16 at *
  have ya_bh0_16 := tbh0_16.1
  have yb_bh0_16 := tbh0_16.2
  clear g16
  have bb16 : Below w.heap.size w w16 := Below.then bb15 b16
  have ow0_16 := ow0_15.below b16
  have ox1_16 := ox1_15.below b16
  have og0_16 := og0_15.below b16
  have oh0_16 := oh0_15.below b16
  have tbw0_16 := tbw0_15.below b16
  have ya_bw0_16 := tbw0_16.1
  have yb_bw0_16 := tbw0_16.2
  have tbg0_16 := tbg0_15.below b16
  have ya_bg0_16 := tbg0_16.1
  have yb_bg0_16 := tbg0_16.2
  clear ow0_15 ox1_15 og0_15 oh0_15 tbw0_15 ya_bw0_15 yb_bw0_15 tbg0_15 ya_bg0_15 yb_bg0_15 bb15 b16
  clear pre_bw0_0 pre_bw0_1 pre_bg0_0 pre_bg0_1
  go_wp2_with fail
  refine (eqTour_refl (rtS a0 x1) (.slice Yy15 (rtL a0 x1).length cy15) (.slice Yy2 (rtL a0 x1).length cy2) (rtL a0 x1) _ oh0_16.rd ow0_16.rd).mono ?_
  rintro e w17 ⟨rfl, b17⟩
  have bb17 : Below w.heap.size w w17 := Below.then bb16 b17
  have ow0_17 := ow0_16.below b17
  have ox1_17 := ox1_16.below b17
  have og0_17 := og0_16.below b17
  have oh0_17 := oh0_16.below b17
  have tbw0_17 := tbw0_16.below b17
  have ya_bw0_17 := tbw0_17.1
  have yb_bw0_17 := tbw0_17.2
  have tbg0_17 := tbg0_16.below b17
  have ya_bg0_17 := tbg0_17.1
  have yb_bg0_17 := tbg0_17.2
  have tbh0_17 := tbh0_16.below b17
  have ya_bh0_17 := tbh0_17.1
  have yb_bh0_17 := tbh0_17.2
  clear ow0_16 ox1_16 og0_16 oh0_16 tbw0_16 ya_bw0_16 yb_bw0_16 tbg0_16 ya_bg0_16 yb_bg0_16 tbh0_16 ya_bh0_16 yb_bh0_16 bb16 b17
  go_wp2_with fail
  refine (heldMarksTour_any (rtS a0 x1) (.slice Yy5 (rtL a0 x1).length cy5) (rtL a0 x1).length (1 : Int) _ og0_17.rd (by have := rtL_len a0 x1; omega) (by omega) (by omega)).mono ?_
  rintro e w18 ⟨rfl, b18⟩
  have bb18 : Below w.heap.size w w18 := Below.then bb17 b18
  have ow0_18 := ow0_17.below b18
  have ox1_18 := ox1_17.below b18
  have og0_18 := og0_17.below b18
  have oh0_18 := oh0_17.below b18
  have tbw0_18 := tbw0_17.below b18
  have ya_bw0_18 := tbw0_18.1
  have yb_bw0_18 := tbw0_18.2
  have tbg0_18 := tbg0_17.below b18
  have ya_bg0_18 := tbg0_18.1
  have yb_bg0_18 := tbg0_18.2
  have tbh0_18 := tbh0_17.below b18
  have ya_bh0_18 := tbh0_18.1
  have yb_bh0_18 := tbh0_18.2
  clear ow0_17 ox1_17 og0_17 oh0_17 tbw0_17 ya_bw0_17 yb_bw0_17 tbg0_17 ya_bg0_17 yb_bg0_17 tbh0_17 ya_bh0_17 yb_bh0_17 bb17 b18
  go_wp2_with fail
  go_ret
  exact ⟨rfl, bb18⟩
end Go.Proofs.Ytoblhnfnjagajaa
