/- FnExactRankBy: the walk of the law. -/
import Derived.Test.YtmcajbhillekjaaRank
import Derived.Test.YtmcajbhillekjaaMarks
import Derived.Test.YtmcajbhillekjaaFrame
namespace Go.Proofs.Ytmcajbhillekjaa
open Go.RowKit

set_option maxHeartbeats 1000000 in
theorem lawRankBy (v0 : Value) (w : World) (h0 : IntsV w v0) :
    Calls Try.prog 5 #[v0] w fun e w' => e = .returned (.bool true) ∧ Below w.heap.size w w' := by
  obtain ⟨x0, r0, i0⟩ := h0
  have R0 := Lib.hid r0
  have I0 := Lib.hid i0
  clear i0
  obtain ⟨A0, c0, rfl, hl0, hm0, -⟩ := r0
  unfold maxLen at hm0
  by_cases hn0 : x0.length ≤ 1048576
  case neg =>
    have hd0 : decide ((1048576 : Int) < (x0.length : Int)) = true := by simp; omega
    go_enter Try.func5, Try.ntmps5
    go_wp2
    go_ret
    exact ⟨rfl, Below.refl _ _⟩
  have hd0 : decide ((1048576 : Int) < (x0.length : Int)) = false := by simp; omega
  go_enter Try.func5, Try.ntmps5
  go_wp2_with fail
  refine (toIntS_any (.slice A0 x0.length c0) x0 _ R0.out (by omega)).mono ?_
  rintro e w1 ⟨y1, rfl, oo1, b1⟩
  have ot1_1 : Own w1 w.heap.size y1 x0 := oo1.mono (Nat.le_refl _)
  clear oo1
  have bb1 : Below w.heap.size w w1 := b1
  clear b1
  go_wp2_with fail
  refine (specRankBy y1 x0 _ ot1_1.rd).mono ?_
  rintro e w2 ⟨y2, rfl, oo2, b2⟩
  have ap_t1_w0 := Own.apart ot1_1 oo2 (Nat.le_refl _)
  have ow0_2 : Own w2 w.heap.size y2 (rankL x0) := oo2.mono bb1.size
  clear oo2
  have bb2 : Below w.heap.size w w2 := Below.then bb1 b2
  have ot1_2 := ot1_1.below b2
  clear ot1_1 bb1 b2
  clear ot1_2
  go_wp2_with fail
  refine (toIntS_any (.slice A0 x0.length c0) x0 _ (R0.out.below bb2) (by omega)).mono ?_
  rintro e w3 ⟨y3, rfl, oo3, b3⟩
  have ap_w0_x0 := Own.apart ow0_2 oo3 (Nat.le_refl _)
  have ox0_3 : Own w3 w.heap.size y3 x0 := oo3.mono bb2.size
  clear oo3
  have bb3 : Below w.heap.size w w3 := Below.then bb2 b3
  have ow0_3 := ow0_2.below b3
  clear ow0_2 bb2 b3
  go_wp2_with fail
  refine (implRankBy y3 x0 _ ox0_3.rd).mono ?_
  rintro e w4 ⟨y4, rfl, oo4, b4⟩
  have ap_w0_g0 := Own.apart ow0_3 oo4 (Nat.le_refl _)
  have ap_x0_g0 := Own.apart ox0_3 oo4 (Nat.le_refl _)
  have og0_4 : Own w4 w.heap.size y4 (rankL x0) := oo4.mono bb3.size
  clear oo4
  have bb4 : Below w.heap.size w w4 := Below.then bb3 b4
  have ow0_4 := ow0_3.below b4
  have ox0_4 := ox0_3.below b4
  clear ow0_3 ox0_3 bb3 b4
  go_wp2_with fail
  refine (eqIntS_refl y4 y2 (rankL x0) _ og0_4.rd ow0_4.rd).mono ?_
  rintro e w5 ⟨rfl, q5⟩
  have b5 := Below.of_drew q5
  clear q5
  have bb5 : Below w.heap.size w w5 := Below.then bb4 b5
  have ow0_5 := ow0_4.below b5
  have ox0_5 := ox0_4.below b5
  have og0_5 := og0_4.below b5
  clear ow0_4 ox0_4 og0_4 bb4 b5
  go_wp2_with fail
  refine (toIntS_any (.slice A0 x0.length c0) x0 _ (R0.out.below bb5) (by omega)).mono ?_
  rintro e w6 ⟨y6, rfl, oo6, b6⟩
  have ap_w0_t2 := Own.apart ow0_5 oo6 (Nat.le_refl _)
  have ap_x0_t2 := Own.apart ox0_5 oo6 (Nat.le_refl _)
  have ap_g0_t2 := Own.apart og0_5 oo6 (Nat.le_refl _)
  have ot2_6 : Own w6 w.heap.size y6 x0 := oo6.mono bb5.size
  clear oo6
  have bb6 : Below w.heap.size w w6 := Below.then bb5 b6
  have ow0_6 := ow0_5.below b6
  have ox0_6 := ox0_5.below b6
  have og0_6 := og0_5.below b6
  clear ow0_5 ox0_5 og0_5 bb5 b6
  go_wp2_with fail
  refine (eqIntS_refl y3 y6 x0 _ ox0_6.rd ot2_6.rd).mono ?_
  rintro e w7 ⟨rfl, q7⟩
  have b7 := Below.of_drew q7
  clear q7
  have bb7 : Below w.heap.size w w7 := Below.then bb6 b7
  have ow0_7 := ow0_6.below b7
  have ox0_7 := ox0_6.below b7
  have og0_7 := og0_6.below b7
  have ot2_7 := ot2_6.below b7
  clear ow0_6 ox0_6 og0_6 ot2_6 bb6 b7
  clear ot2_7
  go_wp2_with fail
  refine (markIntS_any y3 x0 w.heap.size (1 : Int) _ ox0_7 (by omega) (by omega) (by omega)).mono ?_
  rintro e w8 ⟨rfl, om8, g8⟩
  have bb8 : Below w.heap.size w w8 := Below.grown bb7 g8 bb7.size (fun k hk => (ox0_7.lt k hk).1)
  have ow0_8 := ow0_7.kept g8 ap_w0_x0
  have og0_8 := og0_7.kept g8 (apart_symm ap_x0_g0)
  clear bb7 ow0_7 og0_7 ox0_7 g8
  go_wp2_with fail
  refine (eqIntS_refl y4 y2 (rankL x0) _ og0_8.rd ow0_8.rd).mono ?_
  rintro e w9 ⟨rfl, q9⟩
  have b9 := Below.of_drew q9
  clear q9
  have bb9 : Below w.heap.size w w9 := Below.then bb8 b9
  have ow0_9 := ow0_8.below b9
  have ox0_9 := om8.below b9
  have og0_9 := og0_8.below b9
  clear ow0_8 om8 og0_8 bb8 b9
  go_wp2_with fail
  refine (markIntS_any y4 (rankL x0) w.heap.size (1 : Int) _ og0_9 (by have := rankL_len x0; omega) (by omega) (by omega)).mono ?_
  rintro e w10 ⟨rfl, om10, g10⟩
  have bb10 : Below w.heap.size w w10 := Below.grown bb9 g10 bb9.size (fun k hk => (og0_9.lt k hk).1)
  have ow0_10 := ow0_9.kept g10 ap_w0_g0
  have ox0_10 := ox0_9.kept g10 ap_x0_g0
  clear bb9 ow0_9 ox0_9 og0_9 g10
  go_wp2_with fail
  refine (heldMarks_any y4 (rankL x0).length (1 : Int) _ om10.rd (by have := rankL_len x0; omega) (by omega) (by omega)).mono ?_
  rintro e w11 ⟨rfl, rfl⟩
  go_wp2_with fail
  refine (toIntS_any (.slice A0 x0.length c0) x0 _ (R0.out.below bb10) (by omega)).mono ?_
  rintro e w11 ⟨y11, rfl, oo11, b11⟩
  have ap_w0_t3 := Own.apart ow0_10 oo11 (Nat.le_refl _)
  have ap_x0_t3 := Own.apart ox0_10 oo11 (Nat.le_refl _)
  have ap_g0_t3 := Own.apart om10 oo11 (Nat.le_refl _)
  have ot3_11 : Own w11 w.heap.size y11 x0 := oo11.mono bb10.size
  clear oo11
  have bb11 : Below w.heap.size w w11 := Below.then bb10 b11
  have ow0_11 := ow0_10.below b11
  have ox0_11 := ox0_10.below b11
  have og0_11 := om10.below b11
  clear ow0_10 ox0_10 om10 bb10 b11
  go_wp2_with fail
  refine (implRankBy y11 x0 _ ot3_11.rd).mono ?_
  rintro e w12 ⟨y12, rfl, oo12, b12⟩
  have ap_w0_h0 := Own.apart ow0_11 oo12 (Nat.le_refl _)
  have ap_x0_h0 := Own.apart ox0_11 oo12 (Nat.le_refl _)
  have ap_g0_h0 := Own.apart og0_11 oo12 (Nat.le_refl _)
  have ap_t3_h0 := Own.apart ot3_11 oo12 (Nat.le_refl _)
  have oh0_12 : Own w12 w.heap.size y12 (rankL x0) := oo12.mono bb11.size
  clear oo12
  have bb12 : Below w.heap.size w w12 := Below.then bb11 b12
  have ow0_12 := ow0_11.below b12
  have ox0_12 := ox0_11.below b12
  have og0_12 := og0_11.below b12
  have ot3_12 := ot3_11.below b12
  clear ow0_11 ox0_11 og0_11 ot3_11 bb11 b12
  clear ot3_12
  go_wp2_with fail
  refine (eqIntS_refl y12 y2 (rankL x0) _ oh0_12.rd ow0_12.rd).mono ?_
  rintro e w13 ⟨rfl, q13⟩
  have b13 := Below.of_drew q13
  clear q13
  have bb13 : Below w.heap.size w w13 := Below.then bb12 b13
  have ow0_13 := ow0_12.below b13
  have ox0_13 := ox0_12.below b13
  have og0_13 := og0_12.below b13
  have oh0_13 := oh0_12.below b13
  clear ow0_12 ox0_12 og0_12 oh0_12 bb12 b13
  go_wp2_with fail
  refine (heldMarks_any y4 (rankL x0).length (1 : Int) _ og0_13.rd (by have := rankL_len x0; omega) (by omega) (by omega)).mono ?_
  rintro e w14 ⟨rfl, rfl⟩
  go_wp2_with fail
  go_ret
  exact ⟨rfl, bb13⟩
end Go.Proofs.Ytmcajbhillekjaa
