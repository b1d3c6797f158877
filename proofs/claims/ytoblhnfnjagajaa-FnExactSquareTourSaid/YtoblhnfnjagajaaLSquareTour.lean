/- FnExactSquareTour: the walk of the law. -/
import Derived.Test.YtoblhnfnjagajaaSquare
import Derived.Test.YtoblhnfnjagajaaTourL
import Derived.Test.YtoblhnfnjagajaaFrame
import Derived.Test.YtoblhnfnjagajaaMarkR
namespace Go.Proofs.Ytoblhnfnjagajaa
open Go.RowKit

set_option maxHeartbeats 2000000 in
theorem lawSquareTour (v0 : Value) (w : World) (h0 : IntV v0) :
    Calls Try.prog 10 #[v0] w fun e w' => e = .returned (.bool true) ∧ Below w.heap.size w w' := by
  obtain ⟨a0, rfl, lo0, hi0⟩ := h0
  go_enter Try.func10, Try.ntmps10
  go_wp2_with fail
  refine (specSquare a0 _ ).mono ?_
  rintro e w1 ⟨y1, rfl, oy1, b1⟩
  obtain ⟨Yy1, cy1, rfl, -, -, -⟩ := oy1.form
  have ow0_1 : Own w1 w.heap.size (.slice Yy1 (sqL a0).length cy1) (sqL a0) := oy1.mono (Nat.le_refl _)
  clear oy1
  have bb1 : Below w.heap.size w w1 := b1
  clear b1
  go_wp2_with fail
  have b2 := below_alloc1 w1 (.cells #[.int .i64 (sqS a0), (.slice Yy1 (sqL a0).length cy1)] 65)
  have tbw0_2 := TBox.new w1 (sqS a0) (.slice Yy1 (sqL a0).length cy1) 65
  have nb_w0_bw0 := box_new_of (fun k hk => (ow0_1.lt k hk).2)
  have g2 : w1.heap.size < (w1.alloc (.cells #[.int .i64 (sqS a0), (.slice Yy1 (sqL a0).length cy1)] 65)).heap.size := by simp
  generalize w1.alloc (.cells #[.int .i64 (sqS a0), (.slice Yy1 (sqL a0).length cy1)] 65) = w2 at *
  have ya_bw0_2 := tbw0_2.1
  have yb_bw0_2 := tbw0_2.2
  clear g2
  have bb2 : Below w.heap.size w w2 := Below.then bb1 b2
  have ow0_2 := ow0_1.below b2
  clear ow0_1 bb1 b2
  go_wp2_with fail
  refine (implSquare a0 _ ).mono ?_
  rintro e w3 ⟨y3, rfl, oy3, b3⟩
  obtain ⟨Yy3, cy3, rfl, -, -, -⟩ := oy3.form
  have ap_w0_g0 := apart_of (fun k hk => (ow0_2.lt k hk).2) (fun k hk => (oy3.lt k hk).1)
  have nb_g0_bw0 := box_old_of tbw0_2 (fun k hk => (oy3.lt k hk).1)
  have og0_3 : Own w3 w.heap.size (.slice Yy3 (sqL a0).length cy3) (sqL a0) := oy3.mono bb2.size
  clear oy3
  have bb3 : Below w.heap.size w w3 := Below.then bb2 b3
  have ow0_3 := ow0_2.below b3
  have tbw0_3 := tbw0_2.below b3
  have ya_bw0_3 := tbw0_3.1
  have yb_bw0_3 := tbw0_3.2
  clear ow0_2 tbw0_2 ya_bw0_2 yb_bw0_2 bb2 b3
  have pre_bw0_0 := (tbw0_3.below (below_alloc1 w3 (.cells #[.int .i64 (sqS a0), (.slice Yy3 (sqL a0).length cy3)] 65))).1
  have pre_bw0_1 := (tbw0_3.below (below_alloc1 w3 (.cells #[.int .i64 (sqS a0), (.slice Yy3 (sqL a0).length cy3)] 65))).2
  go_wp2_with fail
  have b4 := below_alloc1 w3 (.cells #[.int .i64 (sqS a0), (.slice Yy3 (sqL a0).length cy3)] 65)
  have tbg0_4 := TBox.new w3 (sqS a0) (.slice Yy3 (sqL a0).length cy3) 65
  have nb_w0_bg0 := box_new_of (fun k hk => (ow0_3.lt k hk).2)
  have nb_g0_bg0 := box_new_of (fun k hk => (og0_3.lt k hk).2)
  have g4 : w3.heap.size < (w3.alloc (.cells #[.int .i64 (sqS a0), (.slice Yy3 (sqL a0).length cy3)] 65)).heap.size := by simp
  generalize w3.alloc (.cells #[.int .i64 (sqS a0), (.slice Yy3 (sqL a0).length cy3)] 65) = w4 at *
  have ya_bg0_4 := tbg0_4.1
  have yb_bg0_4 := tbg0_4.2
  clear g4
  have bb4 : Below w.heap.size w w4 := Below.then bb3 b4
  have ow0_4 := ow0_3.below b4
  have og0_4 := og0_3.below b4
  have tbw0_4 := tbw0_3.below b4
  have ya_bw0_4 := tbw0_4.1
  have yb_bw0_4 := tbw0_4.2
  clear ow0_3 og0_3 tbw0_3 ya_bw0_3 yb_bw0_3 bb3 b4
  clear pre_bw0_0 pre_bw0_1
  go_wp2_with fail
  refine (eqTour_refl (sqS a0) (.slice Yy3 (sqL a0).length cy3) (.slice Yy1 (sqL a0).length cy1) (sqL a0) _ og0_4.rd ow0_4.rd).mono ?_
  rintro e w5 ⟨rfl, b5⟩
  have bb5 : Below w.heap.size w w5 := Below.then bb4 b5
  have ow0_5 := ow0_4.below b5
  have og0_5 := og0_4.below b5
  have tbw0_5 := tbw0_4.below b5
  have ya_bw0_5 := tbw0_5.1
  have yb_bw0_5 := tbw0_5.2
  have tbg0_5 := tbg0_4.below b5
  have ya_bg0_5 := tbg0_5.1
  have yb_bg0_5 := tbg0_5.2
  clear ow0_4 og0_4 tbw0_4 ya_bw0_4 yb_bw0_4 tbg0_4 ya_bg0_4 yb_bg0_4 bb4 b5
  go_wp2_with fail
  refine (markTour_any (sqS a0) (.slice Yy3 (sqL a0).length cy3) (sqL a0) w.heap.size (1 : Int) _ og0_5 (by have := sqL_len a0; omega) (by omega) (by omega)).mono ?_
  rintro e w6 ⟨rfl, om6, g6⟩
  have bb6 : Below w.heap.size w w6 := Below.grown bb5 g6 bb5.size (fun k hk => (og0_5.lt k hk).1)
  have ow0_6 := ow0_5.kept g6 ap_w0_g0
  have tbw0_6 := tbw0_5.kept g6 (nb_ne nb_g0_bw0)
  have ya_bw0_6 := tbw0_6.1
  have yb_bw0_6 := tbw0_6.2
  have tbg0_6 := tbg0_5.kept g6 (nb_ne nb_g0_bg0)
  have ya_bg0_6 := tbg0_6.1
  have yb_bg0_6 := tbg0_6.2
  clear bb5 ow0_5 tbw0_5 ya_bw0_5 yb_bw0_5 tbg0_5 ya_bg0_5 yb_bg0_5 og0_5 g6
  go_wp2_with fail
  refine (heldMarksTour_any (sqS a0) (.slice Yy3 (sqL a0).length cy3) (sqL a0).length (1 : Int) _ om6.rd (by have := sqL_len a0; omega) (by omega) (by omega)).mono ?_
  rintro e w7 ⟨rfl, b7⟩
  have bb7 : Below w.heap.size w w7 := Below.then bb6 b7
  have ow0_7 := ow0_6.below b7
  have og0_7 := om6.below b7
  have tbw0_7 := tbw0_6.below b7
  have ya_bw0_7 := tbw0_7.1
  have yb_bw0_7 := tbw0_7.2
  have tbg0_7 := tbg0_6.below b7
  have ya_bg0_7 := tbg0_7.1
  have yb_bg0_7 := tbg0_7.2
  clear ow0_6 om6 tbw0_6 ya_bw0_6 yb_bw0_6 tbg0_6 ya_bg0_6 yb_bg0_6 bb6 b7
  go_wp2_with fail
  refine (implSquare a0 _ ).mono ?_
  rintro e w8 ⟨y8, rfl, oy8, b8⟩
  obtain ⟨Yy8, cy8, rfl, -, -, -⟩ := oy8.form
  have ap_w0_h0 := apart_of (fun k hk => (ow0_7.lt k hk).2) (fun k hk => (oy8.lt k hk).1)
  have ap_g0_h0 := apart_of (fun k hk => (og0_7.lt k hk).2) (fun k hk => (oy8.lt k hk).1)
  have nb_h0_bw0 := box_old_of tbw0_7 (fun k hk => (oy8.lt k hk).1)
  have nb_h0_bg0 := box_old_of tbg0_7 (fun k hk => (oy8.lt k hk).1)
  have oh0_8 : Own w8 w.heap.size (.slice Yy8 (sqL a0).length cy8) (sqL a0) := oy8.mono bb7.size
  clear oy8
  have bb8 : Below w.heap.size w w8 := Below.then bb7 b8
  have ow0_8 := ow0_7.below b8
  have og0_8 := og0_7.below b8
  have tbw0_8 := tbw0_7.below b8
  have ya_bw0_8 := tbw0_8.1
  have yb_bw0_8 := tbw0_8.2
  have tbg0_8 := tbg0_7.below b8
  have ya_bg0_8 := tbg0_8.1
  have yb_bg0_8 := tbg0_8.2
  clear ow0_7 og0_7 tbw0_7 ya_bw0_7 yb_bw0_7 tbg0_7 ya_bg0_7 yb_bg0_7 bb7 b8
  have pre_bw0_0 := (tbw0_8.below (below_alloc1 w8 (.cells #[.int .i64 (sqS a0), (.slice Yy8 (sqL a0).length cy8)] 65))).1
  have pre_bw0_1 := (tbw0_8.below (below_alloc1 w8 (.cells #[.int .i64 (sqS a0), (.slice Yy8 (sqL a0).length cy8)] 65))).2
  have pre_bg0_0 := (tbg0_8.below (below_alloc1 w8 (.cells #[.int .i64 (sqS a0), (.slice Yy8 (sqL a0).length cy8)] 65))).1
  have pre_bg0_1 := (tbg0_8.below (below_alloc1 w8 (.cells #[.int .i64 (sqS a0), (.slice Yy8 (sqL a0).length cy8)] 65))).2
  go_wp2_with fail
  have b9 := below_alloc1 w8 (.cells #[.int .i64 (sqS a0), (.slice Yy8 (sqL a0).length cy8)] 65)
  have tbh0_9 := TBox.new w8 (sqS a0) (.slice Yy8 (sqL a0).length cy8) 65
  have nb_w0_bh0 := box_new_of (fun k hk => (ow0_8.lt k hk).2)
  have nb_g0_bh0 := box_new_of (fun k hk => (og0_8.lt k hk).2)
  have nb_h0_bh0 := box_new_of (fun k hk => (oh0_8.lt k hk).2)
  have g9 : w8.heap.size < (w8.alloc (.cells #[.int .i64 (sqS a0), (.slice Yy8 (sqL a0).length cy8)] 65)).heap.size := by simp
  generalize w8.alloc (.cells #[.int .i64 (sqS a0), (.slice Yy8 (sqL a0).length cy8)] 65) = w9 at *
  have ya_bh0_9 := tbh0_9.1
  have yb_bh0_9 := tbh0_9.2
  clear g9
  have bb9 : Below w.heap.size w w9 := Below.then bb8 b9
  have ow0_9 := ow0_8.below b9
  have og0_9 := og0_8.below b9
  have oh0_9 := oh0_8.below b9
  have tbw0_9 := tbw0_8.below b9
  have ya_bw0_9 := tbw0_9.1
  have yb_bw0_9 := tbw0_9.2
  have tbg0_9 := tbg0_8.below b9
  have ya_bg0_9 := tbg0_9.1
  have yb_bg0_9 := tbg0_9.2
  clear ow0_8 og0_8 oh0_8 tbw0_8 ya_bw0_8 yb_bw0_8 tbg0_8 ya_bg0_8 yb_bg0_8 bb8 b9
  clear pre_bw0_0 pre_bw0_1 pre_bg0_0 pre_bg0_1
  go_wp2_with fail
  refine (eqTour_refl (sqS a0) (.slice Yy8 (sqL a0).length cy8) (.slice Yy1 (sqL a0).length cy1) (sqL a0) _ oh0_9.rd ow0_9.rd).mono ?_
  rintro e w10 ⟨rfl, b10⟩
  have bb10 : Below w.heap.size w w10 := Below.then bb9 b10
  have ow0_10 := ow0_9.below b10
  have og0_10 := og0_9.below b10
  have oh0_10 := oh0_9.below b10
  have tbw0_10 := tbw0_9.below b10
  have ya_bw0_10 := tbw0_10.1
  have yb_bw0_10 := tbw0_10.2
  have tbg0_10 := tbg0_9.below b10
  have ya_bg0_10 := tbg0_10.1
  have yb_bg0_10 := tbg0_10.2
  have tbh0_10 := tbh0_9.below b10
  have ya_bh0_10 := tbh0_10.1
  have yb_bh0_10 := tbh0_10.2
  clear ow0_9 og0_9 oh0_9 tbw0_9 ya_bw0_9 yb_bw0_9 tbg0_9 ya_bg0_9 yb_bg0_9 tbh0_9 ya_bh0_9 yb_bh0_9 bb9 b10
  go_wp2_with fail
  refine (heldMarksTour_any (sqS a0) (.slice Yy3 (sqL a0).length cy3) (sqL a0).length (1 : Int) _ og0_10.rd (by have := sqL_len a0; omega) (by omega) (by omega)).mono ?_
  rintro e w11 ⟨rfl, b11⟩
  have bb11 : Below w.heap.size w w11 := Below.then bb10 b11
  have ow0_11 := ow0_10.below b11
  have og0_11 := og0_10.below b11
  have oh0_11 := oh0_10.below b11
  have tbw0_11 := tbw0_10.below b11
  have ya_bw0_11 := tbw0_11.1
  have yb_bw0_11 := tbw0_11.2
  have tbg0_11 := tbg0_10.below b11
  have ya_bg0_11 := tbg0_11.1
  have yb_bg0_11 := tbg0_11.2
  have tbh0_11 := tbh0_10.below b11
  have ya_bh0_11 := tbh0_11.1
  have yb_bh0_11 := tbh0_11.2
  clear ow0_10 og0_10 oh0_10 tbw0_10 ya_bw0_10 yb_bw0_10 tbg0_10 ya_bg0_10 yb_bg0_10 tbh0_10 ya_bh0_10 yb_bh0_10 bb10 b11
  go_wp2_with fail
  go_ret
  exact ⟨rfl, bb11⟩
end Go.Proofs.Ytoblhnfnjagajaa
