/- FnExactLevelsOf: the walk of the law. -/
import Derived.Test.YtdmneccfbfdloaaLevels
import Derived.Test.YtdmneccfbfdloaaMarks
import Derived.Test.YtdmneccfbfdloaaFrame
import Derived.Test.YtdmneccfbfdloaaRowsF
namespace Go.Proofs.Ytdmneccfbfdloaa
open Go.RowKit
set_option maxRecDepth 100000

set_option maxHeartbeats 2000000 in
theorem lawLevelsOf (v0 : Value) (w : World) (h0 : IntsV w v0) :
    Calls Try.prog 4 #[v0] w fun e w' => e = .returned (.bool true) ∧ Below w.heap.size w w' := by
  obtain ⟨x0, r0, i0⟩ := h0
  have R0 := Lib.hid r0
  have I0 := Lib.hid i0
  obtain ⟨A0, c0, rfl, hl0, hm0, -⟩ := r0
  unfold maxLen at hm0
  clear i0
  by_cases hn0 : x0.length ≤ 1048576
  case neg =>
    have hd0 : decide ((1048576 : Int) < (x0.length : Int)) = true := by simp; omega
    go_enter Try.func4, Try.ntmps4
    go_wp2
    go_ret
    first | exact ⟨rfl, Below.refl _ _⟩ | exact ⟨rfl, below_alloc1 _ _⟩ | exact ⟨rfl, (below_alloc1 _ _).alloc (by simp) _⟩
  have hd0 : decide ((1048576 : Int) < (x0.length : Int)) = false := by simp; omega
  have HLEN := Lib.hid (Nat.le_trans (sum_bd (lvL x0) 40 (lvL_bd x0).2) (Nat.mul_le_mul_left 40 (lvL_bd x0).1))
  go_enter Try.func4, Try.ntmps4
  go_wp2_with fail
  refine (toIntS_any (.slice A0 x0.length c0) x0 _ R0.out (by omega)).mono ?_
  rintro e w1 ⟨y1, rfl, oo1, b1⟩
  obtain ⟨Y1, cy1, rfl, -, -, -⟩ := oo1.form
  have ot1_1 : Own w1 w.heap.size (.slice Y1 x0.length cy1) x0 := oo1.mono (Nat.le_refl _)
  clear oo1
  have bb1 : Below w.heap.size w w1 := b1
  clear b1
  go_wp2_with fail
  refine (specLevels (.slice Y1 x0.length cy1) x0 _ ot1_1.rd).mono ?_
  rintro e w2 ⟨y2, rfl, oy2, b2⟩
  obtain ⟨Yy2, cy2, rfl, -, -, -⟩ := oy2.form
  have RW := Lib.hid oy2.rdr
  clear oy2 ot1_1
  have bb2 : Below w.heap.size w w2 := Below.then bb1 b2
  have BS2 : Below w2.heap.size w2 w2 := Below.refl _ _
  clear bb1 b2
  go_wp2_with fail
  refine (toIntS_any (.slice A0 x0.length c0) x0 _ (R0.out.below bb2) (by omega)).mono ?_
  rintro e w3 ⟨y3, rfl, oo3, b3⟩
  obtain ⟨Y3, cy3, rfl, -, -, -⟩ := oo3.form
  have lo_x0 := fun k hk => (oo3.lt k hk).1
  have hi_x0 := fun k hk => (oo3.lt k hk).2
  have ox0_3 : Own w3 w.heap.size (.slice Y3 x0.length cy3) x0 := oo3.mono bb2.size
  clear oo3
  have bb3 : Below w.heap.size w w3 := Below.then bb2 b3
  have BS3 : Below w2.heap.size w2 w3 := Below.then BS2 b3
  have lo_g0 : w.heap.size ≤ w3.heap.size ∧ w2.heap.size ≤ w3.heap.size := ⟨bb3.size, BS3.size⟩
  clear bb2 BS2 b3
  go_wp2_with fail
  refine (implLevels (.slice Y3 x0.length cy3) x0 _ ox0_3.rd).mono ?_
  rintro e w4 ⟨y4, rfl, og0_4, b4⟩
  obtain ⟨Yy4, cy4, rfl, -, -, -⟩ := og0_4.form
  have bb4 : Below w.heap.size w w4 := Below.then bb3 b4
  have BS4 : Below w2.heap.size w2 w4 := Below.then BS3 b4
  have z4 : w3.heap.size ≤ w4.heap.size := b4.size
  have ox0_4 := ox0_3.below b4
  clear ox0_3 bb3 BS3 b4
  go_wp2_with fail
  refine (eqIntSS_refl (.slice Yy4 (lvL x0).length cy4) (.slice Yy2 (lvL x0).length cy2) (lvL x0) _ og0_4.rdr (RW.out.below BS4)).mono ?_
  rintro e w5 ⟨rfl, b5⟩
  have bb5 : Below w.heap.size w w5 := Below.then bb4 b5
  have BS5 : Below w2.heap.size w2 w5 := Below.then BS4 b5
  have z5 : w3.heap.size ≤ w5.heap.size := Nat.le_trans z4 b5.size
  have ox0_5 := ox0_4.below b5
  have og0_5 := og0_4.below b5
  clear ox0_4 og0_4 bb4 BS4 b5
  go_wp2_with fail
  refine (toIntS_any (.slice A0 x0.length c0) x0 _ (R0.out.below bb5) (by omega)).mono ?_
  rintro e w6 ⟨y6, rfl, oo6, b6⟩
  obtain ⟨Y6, cy6, rfl, -, -, -⟩ := oo6.form
  have ot2_6 : Own w6 w.heap.size (.slice Y6 x0.length cy6) x0 := oo6.mono bb5.size
  clear oo6
  have bb6 : Below w.heap.size w w6 := Below.then bb5 b6
  have BS6 : Below w2.heap.size w2 w6 := Below.then BS5 b6
  have z6 : w3.heap.size ≤ w6.heap.size := Nat.le_trans z5 b6.size
  have ox0_6 := ox0_5.below b6
  have og0_6 := og0_5.below b6
  clear ox0_5 og0_5 bb5 BS5 b6
  go_wp2_with fail
  refine (of_drew (eqIntS_refl (.slice Y3 x0.length cy3) (.slice Y6 x0.length cy6) x0 _ ox0_6.rd ot2_6.rd)).mono ?_
  rintro e w7 ⟨rfl, b7⟩
  have bb7 : Below w.heap.size w w7 := Below.then bb6 b7
  have BS7 : Below w2.heap.size w2 w7 := Below.then BS6 b7
  have z7 : w3.heap.size ≤ w7.heap.size := Nat.le_trans z6 b7.size
  have ox0_7 := ox0_6.below b7
  have og0_7 := og0_6.below b7
  clear ox0_6 og0_6 ot2_6 bb6 BS6 b7
  go_wp2_with fail
  refine (markIntS_any (.slice Y3 x0.length cy3) x0 w.heap.size (1 : Int) _ ox0_7 (by omega) (by omega) (by omega)).mono ?_
  rintro e w8 ⟨rfl, om8, g8⟩
  have bb8 : Below w.heap.size w w8 := Below.grown bb7 g8 bb7.size (fun k hk => (ox0_7.lt k hk).1)
  have BS8 : Below w2.heap.size w2 w8 := Below.grown BS7 g8 BS7.size lo_x0
  have z8 : w3.heap.size ≤ w8.heap.size := Nat.le_trans z7 g8.size
  have og0_8 := og0_7.kept_lo g8 hi_x0
  clear bb7 BS7 og0_7 ox0_7 g8 om8
  go_wp2_with fail
  refine (eqIntSS_refl (.slice Yy4 (lvL x0).length cy4) (.slice Yy2 (lvL x0).length cy2) (lvL x0) _ og0_8.rdr (RW.out.below BS8)).mono ?_
  rintro e w9 ⟨rfl, b9⟩
  have bb9 : Below w.heap.size w w9 := Below.then bb8 b9
  have BS9 : Below w2.heap.size w2 w9 := Below.then BS8 b9
  have z9 : w3.heap.size ≤ w9.heap.size := Nat.le_trans z8 b9.size
  have og0_9 := og0_8.below b9
  clear og0_8 bb8 BS8 b9
  go_wp2_with fail
  refine (markIntSS_any (.slice Yy4 (lvL x0).length cy4) (lvL x0) w3.heap.size (1 : Int) _ og0_9 z9 (by have := HLEN.out; omega) (by omega) (by omega)).mono ?_
  rintro e w10 ⟨rfl, om10, m10⟩
  have bb10 : Below w.heap.size w w10 := bb9.trans (m10.mono lo_g0.1)
  have BS10 : Below w2.heap.size w2 w10 := BS9.trans (m10.mono lo_g0.2)
  clear bb9 BS9 og0_9 m10
  go_wp2_with fail
  refine (of_same (heldIntSS_any (.slice Yy4 (lvL x0).length cy4) (lvL x0) (1 : Int) _ om10.rdr (by have := HLEN.out; omega) (by omega) (by omega))).mono ?_
  rintro e w11 ⟨rfl, b11⟩
  have bb11 : Below w.heap.size w w11 := Below.then bb10 b11
  have BS11 : Below w2.heap.size w2 w11 := Below.then BS10 b11
  have og0_11 := om10.below b11
  clear bb10 BS10 om10 b11
  go_wp2_with fail
  refine (toIntS_any (.slice A0 x0.length c0) x0 _ (R0.out.below bb11) (by omega)).mono ?_
  rintro e w12 ⟨y12, rfl, oo12, b12⟩
  obtain ⟨Y12, cy12, rfl, -, -, -⟩ := oo12.form
  have bb12 : Below w.heap.size w w12 := Below.then bb11 b12
  have BS12 : Below w2.heap.size w2 w12 := Below.then BS11 b12
  have og0_12 := og0_11.below b12
  clear bb11 BS11 og0_11 b12
  go_wp2_with fail
  refine (implLevels (.slice Y12 x0.length cy12) x0 _ oo12.rd).mono ?_
  rintro e w13 ⟨y13, rfl, oh0, b13⟩
  obtain ⟨Yy13, cy13, rfl, -, -, -⟩ := oh0.form
  have bb13 : Below w.heap.size w w13 := Below.then bb12 b13
  have BS13 : Below w2.heap.size w2 w13 := Below.then BS12 b13
  have og0_13 := og0_12.below b13
  clear bb12 BS12 og0_12 b13 oo12
  go_wp2_with fail
  refine (eqIntSS_refl (.slice Yy13 (lvL x0).length cy13) (.slice Yy2 (lvL x0).length cy2) (lvL x0) _ oh0.rdr (RW.out.below BS13)).mono ?_
  rintro e w14 ⟨rfl, b14⟩
  have bb14 : Below w.heap.size w w14 := Below.then bb13 b14
  have og0_14 := og0_13.below b14
  clear bb13 BS13 og0_13 b14 oh0
  go_wp2_with fail
  refine (of_same (heldIntSS_any (.slice Yy4 (lvL x0).length cy4) (lvL x0) (1 : Int) _ og0_14.rdr (by have := HLEN.out; omega) (by omega) (by omega))).mono ?_
  rintro e w15 ⟨rfl, b15⟩
  have bb15 : Below w.heap.size w w15 := Below.then bb14 b15
  go_wp2_with fail
  go_ret
  exact ⟨rfl, bb15⟩
end Go.Proofs.Ytdmneccfbfdloaa
