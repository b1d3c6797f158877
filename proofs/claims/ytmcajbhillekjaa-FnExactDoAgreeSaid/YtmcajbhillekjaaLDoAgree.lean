/- FnExactDoAgree: the walk of the law. -/
import Derived.Test.YtmcajbhillekjaaDoAgree
import Derived.Test.YtmcajbhillekjaaMarks
import Derived.Test.YtmcajbhillekjaaFrame
namespace Go.Proofs.Ytmcajbhillekjaa
open Go.RowKit

set_option maxHeartbeats 1000000 in
theorem lawDoAgree (v0 v1 : Value) (w : World) (h0 : IntsV w v0) (h1 : IntsV w v1) :
    Calls Try.prog 3 #[v0, v1] w fun e w' => e = .returned (.bool true) ∧ Below w.heap.size w w' := by
  obtain ⟨x0, r0, i0⟩ := h0
  have R0 := Lib.hid r0
  have I0 := Lib.hid i0
  clear i0
  obtain ⟨x1, r1, i1⟩ := h1
  have R1 := Lib.hid r1
  have I1 := Lib.hid i1
  clear i1
  obtain ⟨A0, c0, rfl, hl0, hm0, -⟩ := r0
  unfold maxLen at hm0
  obtain ⟨A1, c1, rfl, hl1, hm1, -⟩ := r1
  unfold maxLen at hm1
  by_cases hn0 : x0.length ≤ 1048576
  case neg =>
    have hd0 : decide ((1048576 : Int) < (x0.length : Int)) = true := by simp; omega
    go_enter Try.func3, Try.ntmps3
    go_wp2
    go_ret
    exact ⟨rfl, Below.refl _ _⟩
  have hd0 : decide ((1048576 : Int) < (x0.length : Int)) = false := by simp; omega
  by_cases hn1 : x1.length ≤ 1048576
  case neg =>
    have hd1 : decide ((1048576 : Int) < (x1.length : Int)) = true := by simp; omega
    go_enter Try.func3, Try.ntmps3
    go_wp2
    go_ret
    exact ⟨rfl, Below.refl _ _⟩
  have hd1 : decide ((1048576 : Int) < (x1.length : Int)) = false := by simp; omega
  go_enter Try.func3, Try.ntmps3
  go_wp2_with fail
  refine (toIntS_any (.slice A0 x0.length c0) x0 _ R0.out (by omega)).mono ?_
  rintro e w1 ⟨y1, rfl, oo1, b1⟩
  have ot1_1 : Own w1 w.heap.size y1 x0 := oo1.mono (Nat.le_refl _)
  clear oo1
  have bb1 : Below w.heap.size w w1 := b1
  clear b1
  go_wp2_with fail
  refine (toIntS_any (.slice A1 x1.length c1) x1 _ (R1.out.below bb1) (by omega)).mono ?_
  rintro e w2 ⟨y2, rfl, oo2, b2⟩
  have ap_t1_t2 := Own.apart ot1_1 oo2 (Nat.le_refl _)
  have ot2_2 : Own w2 w.heap.size y2 x1 := oo2.mono bb1.size
  clear oo2
  have bb2 : Below w.heap.size w w2 := Below.then bb1 b2
  have ot1_2 := ot1_1.below b2
  clear ot1_1 bb1 b2
  go_wp2_with fail
  refine (specDoAgree y1 x0 y2 x1 _ ot1_2.rd ot2_2.rd).mono ?_
  rintro e w3 ⟨rfl, q3⟩
  have b3 := Below.of_drew q3
  clear q3
  have bb3 : Below w.heap.size w w3 := Below.then bb2 b3
  have ot1_3 := ot1_2.below b3
  have ot2_3 := ot2_2.below b3
  clear ot1_2 ot2_2 bb2 b3
  clear ot1_3 ot2_3
  go_wp2_with fail
  refine (toIntS_any (.slice A0 x0.length c0) x0 _ (R0.out.below bb3) (by omega)).mono ?_
  rintro e w4 ⟨y4, rfl, oo4, b4⟩
  have ox0_4 : Own w4 w.heap.size y4 x0 := oo4.mono bb3.size
  clear oo4
  have bb4 : Below w.heap.size w w4 := Below.then bb3 b4
  clear bb3 b4
  go_wp2_with fail
  refine (toIntS_any (.slice A1 x1.length c1) x1 _ (R1.out.below bb4) (by omega)).mono ?_
  rintro e w5 ⟨y5, rfl, oo5, b5⟩
  have ap_x0_x1 := Own.apart ox0_4 oo5 (Nat.le_refl _)
  have ox1_5 : Own w5 w.heap.size y5 x1 := oo5.mono bb4.size
  clear oo5
  have bb5 : Below w.heap.size w w5 := Below.then bb4 b5
  have ox0_5 := ox0_4.below b5
  clear ox0_4 bb4 b5
  go_wp2_with fail
  refine (implDoAgree y4 x0 y5 x1 _ ox0_5.rd ox1_5.rd).mono ?_
  rintro e w6 ⟨rfl, q6⟩
  have b6 := Below.of_drew q6
  clear q6
  have bb6 : Below w.heap.size w w6 := Below.then bb5 b6
  have ox0_6 := ox0_5.below b6
  have ox1_6 := ox1_5.below b6
  clear ox0_5 ox1_5 bb5 b6
  go_wp2_with fail
  refine (toIntS_any (.slice A0 x0.length c0) x0 _ (R0.out.below bb6) (by omega)).mono ?_
  rintro e w7 ⟨y7, rfl, oo7, b7⟩
  have ap_x0_t3 := Own.apart ox0_6 oo7 (Nat.le_refl _)
  have ap_x1_t3 := Own.apart ox1_6 oo7 (Nat.le_refl _)
  have ot3_7 : Own w7 w.heap.size y7 x0 := oo7.mono bb6.size
  clear oo7
  have bb7 : Below w.heap.size w w7 := Below.then bb6 b7
  have ox0_7 := ox0_6.below b7
  have ox1_7 := ox1_6.below b7
  clear ox0_6 ox1_6 bb6 b7
  go_wp2_with fail
  refine (eqIntS_refl y4 y7 x0 _ ox0_7.rd ot3_7.rd).mono ?_
  rintro e w8 ⟨rfl, q8⟩
  have b8 := Below.of_drew q8
  clear q8
  have bb8 : Below w.heap.size w w8 := Below.then bb7 b8
  have ox0_8 := ox0_7.below b8
  have ox1_8 := ox1_7.below b8
  have ot3_8 := ot3_7.below b8
  clear ox0_7 ox1_7 ot3_7 bb7 b8
  clear ot3_8
  go_wp2_with fail
  refine (toIntS_any (.slice A1 x1.length c1) x1 _ (R1.out.below bb8) (by omega)).mono ?_
  rintro e w9 ⟨y9, rfl, oo9, b9⟩
  have ap_x0_t4 := Own.apart ox0_8 oo9 (Nat.le_refl _)
  have ap_x1_t4 := Own.apart ox1_8 oo9 (Nat.le_refl _)
  have ot4_9 : Own w9 w.heap.size y9 x1 := oo9.mono bb8.size
  clear oo9
  have bb9 : Below w.heap.size w w9 := Below.then bb8 b9
  have ox0_9 := ox0_8.below b9
  have ox1_9 := ox1_8.below b9
  clear ox0_8 ox1_8 bb8 b9
  go_wp2_with fail
  refine (eqIntS_refl y5 y9 x1 _ ox1_9.rd ot4_9.rd).mono ?_
  rintro e w10 ⟨rfl, q10⟩
  have b10 := Below.of_drew q10
  clear q10
  have bb10 : Below w.heap.size w w10 := Below.then bb9 b10
  have ox0_10 := ox0_9.below b10
  have ox1_10 := ox1_9.below b10
  have ot4_10 := ot4_9.below b10
  clear ox0_9 ox1_9 ot4_9 bb9 b10
  clear ot4_10
  go_wp2_with fail
  go_ret
  exact ⟨rfl, bb10⟩
end Go.Proofs.Ytmcajbhillekjaa
