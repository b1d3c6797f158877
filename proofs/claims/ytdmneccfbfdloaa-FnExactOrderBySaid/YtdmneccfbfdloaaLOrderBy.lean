/- FnExactOrderBy: the walk of the law. -/
import Derived.Test.YtdmneccfbfdloaaOrdB
import Derived.Test.YtdmneccfbfdloaaMarks
import Derived.Test.YtdmneccfbfdloaaFrame
namespace Go.Proofs.Ytdmneccfbfdloaa
open Go.RowKit
set_option maxRecDepth 100000

set_option maxHeartbeats 2000000 in
theorem lawOrderBy (v0 : Value) (w : World) (h0 : IntsV w v0) :
    Calls Try.prog 3 #[v0] w fun e w' => e = .returned (.bool true) ∧ Below w.heap.size w w' := by
  obtain ⟨x0, r0, i0⟩ := h0
  have R0 := Lib.hid r0
  have I0 := Lib.hid i0
  obtain ⟨A0, c0, rfl, hl0, hm0, -⟩ := r0
  unfold maxLen at hm0
  clear i0
  by_cases hn0 : x0.length ≤ 1048576
  case neg =>
    have hd0 : decide ((1048576 : Int) < (x0.length : Int)) = true := by simp; omega
    go_enter Try.func3, Try.ntmps3
    go_wp2
    go_ret
    first | exact ⟨rfl, Below.refl _ _⟩ | exact ⟨rfl, below_alloc1 _ _⟩ | exact ⟨rfl, (below_alloc1 _ _).alloc (by simp) _⟩
  have hd0 : decide ((1048576 : Int) < (x0.length : Int)) = false := by simp; omega
  go_enter Try.func3, Try.ntmps3
  go_wp2_with fail
  refine (toIntS_any (.slice A0 x0.length c0) x0 _ R0.out (by omega)).mono ?_
  rintro e w1 ⟨y1, rfl, oo1, b1⟩
  obtain ⟨Y1, cy1, rfl, -, -, -⟩ := oo1.form
  have ot1_1 : Own w1 w.heap.size (.slice Y1 x0.length cy1) x0 := oo1.mono (Nat.le_refl _)
  clear oo1
  have bb1 : Below w.heap.size w w1 := b1
  clear b1
  go_wp2_with fail
  refine (specOrderBy (.slice Y1 x0.length cy1) x0 _ ot1_1.rd).mono ?_
  rintro e w2 ⟨y2, rfl, oy2, b2⟩
  obtain ⟨Yy2, cy2, rfl, -, -, -⟩ := oy2.form
  have ap_t1_w0 := apart_of (fun k hk => (ot1_1.lt k hk).2) (fun k hk => (oy2.lt k hk).1)
  have ow0_2 : Own w2 w.heap.size (.slice Yy2 (obL x0).length cy2) (obL x0) := oy2.mono bb1.size
  clear oy2
  have bb2 : Below w.heap.size w w2 := Below.then bb1 b2
  have ot1_2 := ot1_1.below b2
  clear ot1_1 bb1 b2
  clear ot1_2
  go_wp2_with fail
  refine (toIntS_any (.slice A0 x0.length c0) x0 _ (R0.out.below bb2) (by omega)).mono ?_
  rintro e w3 ⟨y3, rfl, oo3, b3⟩
  obtain ⟨Y3, cy3, rfl, -, -, -⟩ := oo3.form
  have ap_w0_x0 := apart_of (fun k hk => (ow0_2.lt k hk).2) (fun k hk => (oo3.lt k hk).1)
  have ox0_3 : Own w3 w.heap.size (.slice Y3 x0.length cy3) x0 := oo3.mono bb2.size
  clear oo3
  have bb3 : Below w.heap.size w w3 := Below.then bb2 b3
  have ow0_3 := ow0_2.below b3
  clear ow0_2 bb2 b3
  go_wp2_with fail
  refine (implOrderBy (.slice Y3 x0.length cy3) x0 _ ox0_3.rd).mono ?_
  rintro e w4 ⟨y4, rfl, oy4, b4⟩
  obtain ⟨Yy4, cy4, rfl, -, -, -⟩ := oy4.form
  have ap_w0_g0 := apart_of (fun k hk => (ow0_3.lt k hk).2) (fun k hk => (oy4.lt k hk).1)
  have ap_x0_g0 := apart_of (fun k hk => (ox0_3.lt k hk).2) (fun k hk => (oy4.lt k hk).1)
  have og0_4 : Own w4 w.heap.size (.slice Yy4 (obL x0).length cy4) (obL x0) := oy4.mono bb3.size
  clear oy4
  have bb4 : Below w.heap.size w w4 := Below.then bb3 b4
  have ow0_4 := ow0_3.below b4
  have ox0_4 := ox0_3.below b4
  clear ow0_3 ox0_3 bb3 b4
  go_wp2_with fail
  refine (of_drew (eqIntS_refl (.slice Yy4 (obL x0).length cy4) (.slice Yy2 (obL x0).length cy2) (obL x0) _ og0_4.rd ow0_4.rd)).mono ?_
  rintro e w5 ⟨rfl, b5⟩
  have bb5 : Below w.heap.size w w5 := Below.then bb4 b5
  have ow0_5 := ow0_4.below b5
  have ox0_5 := ox0_4.below b5
  have og0_5 := og0_4.below b5
  clear ow0_4 ox0_4 og0_4 bb4 b5
  go_wp2_with fail
  refine (toIntS_any (.slice A0 x0.length c0) x0 _ (R0.out.below bb5) (by omega)).mono ?_
  rintro e w6 ⟨y6, rfl, oo6, b6⟩
  obtain ⟨Y6, cy6, rfl, -, -, -⟩ := oo6.form
  have ap_w0_t2 := apart_of (fun k hk => (ow0_5.lt k hk).2) (fun k hk => (oo6.lt k hk).1)
  have ap_x0_t2 := apart_of (fun k hk => (ox0_5.lt k hk).2) (fun k hk => (oo6.lt k hk).1)
  have ap_g0_t2 := apart_of (fun k hk => (og0_5.lt k hk).2) (fun k hk => (oo6.lt k hk).1)
  have ot2_6 : Own w6 w.heap.size (.slice Y6 x0.length cy6) x0 := oo6.mono bb5.size
  clear oo6
  have bb6 : Below w.heap.size w w6 := Below.then bb5 b6
  have ow0_6 := ow0_5.below b6
  have ox0_6 := ox0_5.below b6
  have og0_6 := og0_5.below b6
  clear ow0_5 ox0_5 og0_5 bb5 b6
  go_wp2_with fail
  refine (of_drew (eqIntS_refl (.slice Y3 x0.length cy3) (.slice Y6 x0.length cy6) x0 _ ox0_6.rd ot2_6.rd)).mono ?_
  rintro e w7 ⟨rfl, b7⟩
  have bb7 : Below w.heap.size w w7 := Below.then bb6 b7
  have ow0_7 := ow0_6.below b7
  have ox0_7 := ox0_6.below b7
  have og0_7 := og0_6.below b7
  have ot2_7 := ot2_6.below b7
  clear ow0_6 ox0_6 og0_6 ot2_6 bb6 b7
  clear ot2_7
  go_wp2_with fail
  refine (markIntS_any (.slice Y3 x0.length cy3) x0 w.heap.size (1 : Int) _ ox0_7 (by omega) (by omega) (by omega)).mono ?_
  rintro e w8 ⟨rfl, om8, g8⟩
  have bb8 : Below w.heap.size w w8 := Below.grown bb7 g8 bb7.size (fun k hk => (ox0_7.lt k hk).1)
  have ow0_8 := ow0_7.kept g8 ap_w0_x0
  have og0_8 := og0_7.kept g8 (apart_symm ap_x0_g0)
  clear bb7 ow0_7 og0_7 ox0_7 g8
  go_wp2_with fail
  refine (of_drew (eqIntS_refl (.slice Yy4 (obL x0).length cy4) (.slice Yy2 (obL x0).length cy2) (obL x0) _ og0_8.rd ow0_8.rd)).mono ?_
  rintro e w9 ⟨rfl, b9⟩
  have bb9 : Below w.heap.size w w9 := Below.then bb8 b9
  have ow0_9 := ow0_8.below b9
  have ox0_9 := om8.below b9
  have og0_9 := og0_8.below b9
  clear ow0_8 om8 og0_8 bb8 b9
  go_wp2_with fail
  refine (markIntS_any (.slice Yy4 (obL x0).length cy4) (obL x0) w.heap.size (1 : Int) _ og0_9 (by have := obL_len x0; omega) (by omega) (by omega)).mono ?_
  rintro e w10 ⟨rfl, om10, g10⟩
  have bb10 : Below w.heap.size w w10 := Below.grown bb9 g10 bb9.size (fun k hk => (og0_9.lt k hk).1)
  have ow0_10 := ow0_9.kept g10 ap_w0_g0
  have ox0_10 := ox0_9.kept g10 ap_x0_g0
  clear bb9 ow0_9 ox0_9 og0_9 g10
  go_wp2_with fail
  refine (of_same (heldMarks_any (.slice Yy4 (obL x0).length cy4) (obL x0).length (1 : Int) _ om10.rd (by have := obL_len x0; omega) (by omega) (by omega))).mono ?_
  rintro e w11 ⟨rfl, b11⟩
  have bb11 : Below w.heap.size w w11 := Below.then bb10 b11
  have ow0_11 := ow0_10.below b11
  have ox0_11 := ox0_10.below b11
  have og0_11 := om10.below b11
  clear ow0_10 ox0_10 om10 bb10 b11
  go_wp2_with fail
  refine (toIntS_any (.slice A0 x0.length c0) x0 _ (R0.out.below bb11) (by omega)).mono ?_
  rintro e w12 ⟨y12, rfl, oo12, b12⟩
  obtain ⟨Y12, cy12, rfl, -, -, -⟩ := oo12.form
  have ap_w0_t3 := apart_of (fun k hk => (ow0_11.lt k hk).2) (fun k hk => (oo12.lt k hk).1)
  have ap_x0_t3 := apart_of (fun k hk => (ox0_11.lt k hk).2) (fun k hk => (oo12.lt k hk).1)
  have ap_g0_t3 := apart_of (fun k hk => (og0_11.lt k hk).2) (fun k hk => (oo12.lt k hk).1)
  have ot3_12 : Own w12 w.heap.size (.slice Y12 x0.length cy12) x0 := oo12.mono bb11.size
  clear oo12
  have bb12 : Below w.heap.size w w12 := Below.then bb11 b12
  have ow0_12 := ow0_11.below b12
  have ox0_12 := ox0_11.below b12
  have og0_12 := og0_11.below b12
  clear ow0_11 ox0_11 og0_11 bb11 b12
  go_wp2_with fail
  refine (implOrderBy (.slice Y12 x0.length cy12) x0 _ ot3_12.rd).mono ?_
  rintro e w13 ⟨y13, rfl, oy13, b13⟩
  obtain ⟨Yy13, cy13, rfl, -, -, -⟩ := oy13.form
  have ap_w0_h0 := apart_of (fun k hk => (ow0_12.lt k hk).2) (fun k hk => (oy13.lt k hk).1)
  have ap_x0_h0 := apart_of (fun k hk => (ox0_12.lt k hk).2) (fun k hk => (oy13.lt k hk).1)
  have ap_g0_h0 := apart_of (fun k hk => (og0_12.lt k hk).2) (fun k hk => (oy13.lt k hk).1)
  have ap_t3_h0 := apart_of (fun k hk => (ot3_12.lt k hk).2) (fun k hk => (oy13.lt k hk).1)
  have oh0_13 : Own w13 w.heap.size (.slice Yy13 (obL x0).length cy13) (obL x0) := oy13.mono bb12.size
  clear oy13
  have bb13 : Below w.heap.size w w13 := Below.then bb12 b13
  have ow0_13 := ow0_12.below b13
  have ox0_13 := ox0_12.below b13
  have og0_13 := og0_12.below b13
  have ot3_13 := ot3_12.below b13
  clear ow0_12 ox0_12 og0_12 ot3_12 bb12 b13
  clear ot3_13
  go_wp2_with fail
  refine (of_drew (eqIntS_refl (.slice Yy13 (obL x0).length cy13) (.slice Yy2 (obL x0).length cy2) (obL x0) _ oh0_13.rd ow0_13.rd)).mono ?_
  rintro e w14 ⟨rfl, b14⟩
  have bb14 : Below w.heap.size w w14 := Below.then bb13 b14
  have ow0_14 := ow0_13.below b14
  have ox0_14 := ox0_13.below b14
  have og0_14 := og0_13.below b14
  have oh0_14 := oh0_13.below b14
  clear ow0_13 ox0_13 og0_13 oh0_13 bb13 b14
  go_wp2_with fail
  refine (of_same (heldMarks_any (.slice Yy4 (obL x0).length cy4) (obL x0).length (1 : Int) _ og0_14.rd (by have := obL_len x0; omega) (by omega) (by omega))).mono ?_
  rintro e w15 ⟨rfl, b15⟩
  have bb15 : Below w.heap.size w w15 := Below.then bb14 b15
  have ow0_15 := ow0_14.below b15
  have ox0_15 := ox0_14.below b15
  have og0_15 := og0_14.below b15
  have oh0_15 := oh0_14.below b15
  clear ow0_14 ox0_14 og0_14 oh0_14 bb14 b15
  go_wp2_with fail
  go_ret
  exact ⟨rfl, bb15⟩
end Go.Proofs.Ytdmneccfbfdloaa
