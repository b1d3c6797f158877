/- FnExactIsConnection: the walk of the law. -/
import Derived.Test.YtmcajbhillekjaaConn2
import Derived.Test.YtmcajbhillekjaaMarks
import Derived.Test.YtmcajbhillekjaaFrame
namespace Go.Proofs.Ytmcajbhillekjaa
open Go.RowKit

set_option maxHeartbeats 1000000 in
theorem lawIsConnection (v0 v1 : Value) (w : World) (h0 : IntV v0) (h1 : IntsV w v1) :
    Calls Try.prog 4 #[v0, v1] w fun e w' => e = .returned (.bool true) ∧ Below w.heap.size w w' := by
  obtain ⟨a0, rfl, lo0, hi0⟩ := h0
  obtain ⟨x1, r1, i1⟩ := h1
  have R1 := Lib.hid r1
  have I1 := Lib.hid i1
  clear i1
  obtain ⟨A1, c1, rfl, hl1, hm1, -⟩ := r1
  unfold maxLen at hm1
  by_cases hn1 : x1.length ≤ 1048576
  case neg =>
    have hd1 : decide ((1048576 : Int) < (x1.length : Int)) = true := by simp; omega
    go_enter Try.func4, Try.ntmps4
    go_wp2
    go_ret
    exact ⟨rfl, Below.refl _ _⟩
  have hd1 : decide ((1048576 : Int) < (x1.length : Int)) = false := by simp; omega
  go_enter Try.func4, Try.ntmps4
  go_wp2_with fail
  refine (toIntS_any (.slice A1 x1.length c1) x1 _ R1.out (by omega)).mono ?_
  rintro e w1 ⟨y1, rfl, oo1, b1⟩
  have ot1_1 : Own w1 w.heap.size y1 x1 := oo1.mono (Nat.le_refl _)
  clear oo1
  have bb1 : Below w.heap.size w w1 := b1
  clear b1
  go_wp2_with fail
  refine (specIsConnection a0 y1 x1 _ ot1_1.rd).mono ?_
  rintro e w2 ⟨rfl, rfl⟩
  clear ot1_1
  go_wp2_with fail
  refine (toIntS_any (.slice A1 x1.length c1) x1 _ (R1.out.below bb1) (by omega)).mono ?_
  rintro e w2 ⟨y2, rfl, oo2, b2⟩
  have ox1_2 : Own w2 w.heap.size y2 x1 := oo2.mono bb1.size
  clear oo2
  have bb2 : Below w.heap.size w w2 := Below.then bb1 b2
  clear bb1 b2
  go_wp2_with fail
  refine (implIsConnection a0 y2 x1 _ ox1_2.rd).mono ?_
  rintro e w3 ⟨rfl, rfl⟩
  go_wp2_with fail
  refine (toIntS_any (.slice A1 x1.length c1) x1 _ (R1.out.below bb2) (by omega)).mono ?_
  rintro e w3 ⟨y3, rfl, oo3, b3⟩
  have ap_x1_t2 := Own.apart ox1_2 oo3 (Nat.le_refl _)
  have ot2_3 : Own w3 w.heap.size y3 x1 := oo3.mono bb2.size
  clear oo3
  have bb3 : Below w.heap.size w w3 := Below.then bb2 b3
  have ox1_3 := ox1_2.below b3
  clear ox1_2 bb2 b3
  go_wp2_with fail
  refine (eqIntS_refl y2 y3 x1 _ ox1_3.rd ot2_3.rd).mono ?_
  rintro e w4 ⟨rfl, q4⟩
  have b4 := Below.of_drew q4
  clear q4
  have bb4 : Below w.heap.size w w4 := Below.then bb3 b4
  have ox1_4 := ox1_3.below b4
  have ot2_4 := ot2_3.below b4
  clear ox1_3 ot2_3 bb3 b4
  clear ot2_4
  go_wp2_with fail
  go_ret
  exact ⟨rfl, bb4⟩
end Go.Proofs.Ytmcajbhillekjaa
