/- FnExactMixStrategies: the walk of the law. -/
import Derived.Test.YtmcajbhillekjaaMix3
import Derived.Test.YtmcajbhillekjaaMarks
import Derived.Test.YtmcajbhillekjaaFrame
namespace Go.Proofs.Ytmcajbhillekjaa
open Go.RowKit

set_option maxHeartbeats 2000000 in
theorem lawMixStrategies (v0 v1 v2 v3 : Value) (w : World) (h0 : IntsV w v0) (h1 : IntsV w v1) (h2 : IntV v2) (h3 : IntV v3) :
    Calls Try.prog 10 #[v0, v1, v2, v3] w fun e w' => e = .returned (.bool true) ∧ Below w.heap.size w w' := by
  obtain ⟨x0, r0, i0⟩ := h0
  have R0 := Lib.hid r0
  have I0 := Lib.hid i0
  obtain ⟨A0, c0, rfl, hl0, hm0, -⟩ := r0
  unfold maxLen at hm0
  clear i0
  obtain ⟨x1, r1, i1⟩ := h1
  have R1 := Lib.hid r1
  have I1 := Lib.hid i1
  obtain ⟨A1, c1, rfl, hl1, hm1, -⟩ := r1
  unfold maxLen at hm1
  clear i1
  obtain ⟨a2, rfl, lo2, hi2⟩ := h2
  obtain ⟨a3, rfl, lo3, hi3⟩ := h3
  by_cases hn0 : x0.length ≤ 1048576
  case neg =>
    have hd0 : decide ((1048576 : Int) < (x0.length : Int)) = true := by simp; omega
    go_enter Try.func10, Try.ntmps10
    go_wp2
    go_ret
    exact ⟨rfl, Below.refl _ _⟩
  have hd0 : decide ((1048576 : Int) < (x0.length : Int)) = false := by simp; omega
  by_cases hn1 : x1.length ≤ 1048576
  case neg =>
    have hd1 : decide ((1048576 : Int) < (x1.length : Int)) = true := by simp; omega
    go_enter Try.func10, Try.ntmps10
    go_wp2
    go_ret
    exact ⟨rfl, Below.refl _ _⟩
  have hd1 : decide ((1048576 : Int) < (x1.length : Int)) = false := by simp; omega
  go_enter Try.func10, Try.ntmps10
  go_wp2_with fail
  refine (toIntS_any (.slice A0 x0.length c0) x0 _ R0.out (by omega)).mono ?_
  rintro e w1 ⟨y1, rfl, oo1, b1⟩
  obtain ⟨Y1, cy1, rfl, -, -, -⟩ := oo1.form
  have ot1_1 : Own w1 w.heap.size (.slice Y1 x0.length cy1) x0 := oo1.mono (Nat.le_refl _)
  clear oo1
  have bb1 : Below w.heap.size w w1 := b1
  clear b1
  go_wp2_with fail
  refine (toIntS_any (.slice A1 x1.length c1) x1 _ (R1.out.below bb1) (by omega)).mono ?_
  rintro e w2 ⟨y2, rfl, oo2, b2⟩
  obtain ⟨Y2, cy2, rfl, -, -, -⟩ := oo2.form
  have ap_t1_t2 := apart_of (fun k hk => (ot1_1.lt k hk).2) (fun k hk => (oo2.lt k hk).1)
  have ot2_2 : Own w2 w.heap.size (.slice Y2 x1.length cy2) x1 := oo2.mono bb1.size
  clear oo2
  have bb2 : Below w.heap.size w w2 := Below.then bb1 b2
  have ot1_2 := ot1_1.below b2
  clear ot1_1 bb1 b2
  go_wp2_with fail
  refine (specMix (.slice Y1 x0.length cy1) x0 (.slice Y2 x1.length cy2) x1 a2 a3 _ ot1_2.rd ot2_2.rd).mono ?_
  rintro e w3 ⟨y3, rfl, oy3, b3⟩
  obtain ⟨Yy3, cy3, rfl, -, -, -⟩ := oy3.form
  have ap_t1_w0 := apart_of (fun k hk => (ot1_2.lt k hk).2) (fun k hk => (oy3.lt k hk).1)
  have ap_t2_w0 := apart_of (fun k hk => (ot2_2.lt k hk).2) (fun k hk => (oy3.lt k hk).1)
  have ow0_3 : Own w3 w.heap.size (.slice Yy3 (mixL x0 x1 a2 a3).length cy3) (mixL x0 x1 a2 a3) := oy3.mono bb2.size
  clear oy3
  have bb3 : Below w.heap.size w w3 := Below.then bb2 b3
  have ot1_3 := ot1_2.below b3
  have ot2_3 := ot2_2.below b3
  clear ot1_2 ot2_2 bb2 b3
  clear ot1_3 ot2_3
  go_wp2_with fail
  refine (toIntS_any (.slice A0 x0.length c0) x0 _ (R0.out.below bb3) (by omega)).mono ?_
  rintro e w4 ⟨y4, rfl, oo4, b4⟩
  obtain ⟨Y4, cy4, rfl, -, -, -⟩ := oo4.form
  have ap_w0_x0 := apart_of (fun k hk => (ow0_3.lt k hk).2) (fun k hk => (oo4.lt k hk).1)
  have ox0_4 : Own w4 w.heap.size (.slice Y4 x0.length cy4) x0 := oo4.mono bb3.size
  clear oo4
  have bb4 : Below w.heap.size w w4 := Below.then bb3 b4
  have ow0_4 := ow0_3.below b4
  clear ow0_3 bb3 b4
  go_wp2_with fail
  refine (toIntS_any (.slice A1 x1.length c1) x1 _ (R1.out.below bb4) (by omega)).mono ?_
  rintro e w5 ⟨y5, rfl, oo5, b5⟩
  obtain ⟨Y5, cy5, rfl, -, -, -⟩ := oo5.form
  have ap_w0_x1 := apart_of (fun k hk => (ow0_4.lt k hk).2) (fun k hk => (oo5.lt k hk).1)
  have ap_x0_x1 := apart_of (fun k hk => (ox0_4.lt k hk).2) (fun k hk => (oo5.lt k hk).1)
  have ox1_5 : Own w5 w.heap.size (.slice Y5 x1.length cy5) x1 := oo5.mono bb4.size
  clear oo5
  have bb5 : Below w.heap.size w w5 := Below.then bb4 b5
  have ow0_5 := ow0_4.below b5
  have ox0_5 := ox0_4.below b5
  clear ow0_4 ox0_4 bb4 b5
  go_wp2_with fail
  refine (implMix (.slice Y4 x0.length cy4) x0 (.slice Y5 x1.length cy5) x1 a2 a3 _ ox0_5.rd ox1_5.rd).mono ?_
  rintro e w6 ⟨y6, rfl, oy6, b6⟩
  obtain ⟨Yy6, cy6, rfl, -, -, -⟩ := oy6.form
  have ap_w0_g0 := apart_of (fun k hk => (ow0_5.lt k hk).2) (fun k hk => (oy6.lt k hk).1)
  have ap_x0_g0 := apart_of (fun k hk => (ox0_5.lt k hk).2) (fun k hk => (oy6.lt k hk).1)
  have ap_x1_g0 := apart_of (fun k hk => (ox1_5.lt k hk).2) (fun k hk => (oy6.lt k hk).1)
  have og0_6 : Own w6 w.heap.size (.slice Yy6 (mixL x0 x1 a2 a3).length cy6) (mixL x0 x1 a2 a3) := oy6.mono bb5.size
  clear oy6
  have bb6 : Below w.heap.size w w6 := Below.then bb5 b6
  have ow0_6 := ow0_5.below b6
  have ox0_6 := ox0_5.below b6
  have ox1_6 := ox1_5.below b6
  clear ow0_5 ox0_5 ox1_5 bb5 b6
  go_wp2_with fail
  refine (of_drew (eqIntS_refl (.slice Yy6 (mixL x0 x1 a2 a3).length cy6) (.slice Yy3 (mixL x0 x1 a2 a3).length cy3) (mixL x0 x1 a2 a3) _ og0_6.rd ow0_6.rd)).mono ?_
  rintro e w7 ⟨rfl, b7⟩
  have bb7 : Below w.heap.size w w7 := Below.then bb6 b7
  have ow0_7 := ow0_6.below b7
  have ox0_7 := ox0_6.below b7
  have ox1_7 := ox1_6.below b7
  have og0_7 := og0_6.below b7
  clear ow0_6 ox0_6 ox1_6 og0_6 bb6 b7
  go_wp2_with fail
  refine (toIntS_any (.slice A0 x0.length c0) x0 _ (R0.out.below bb7) (by omega)).mono ?_
  rintro e w8 ⟨y8, rfl, oo8, b8⟩
  obtain ⟨Y8, cy8, rfl, -, -, -⟩ := oo8.form
  have ap_w0_t3 := apart_of (fun k hk => (ow0_7.lt k hk).2) (fun k hk => (oo8.lt k hk).1)
  have ap_x0_t3 := apart_of (fun k hk => (ox0_7.lt k hk).2) (fun k hk => (oo8.lt k hk).1)
  have ap_x1_t3 := apart_of (fun k hk => (ox1_7.lt k hk).2) (fun k hk => (oo8.lt k hk).1)
  have ap_g0_t3 := apart_of (fun k hk => (og0_7.lt k hk).2) (fun k hk => (oo8.lt k hk).1)
  have ot3_8 : Own w8 w.heap.size (.slice Y8 x0.length cy8) x0 := oo8.mono bb7.size
  clear oo8
  have bb8 : Below w.heap.size w w8 := Below.then bb7 b8
  have ow0_8 := ow0_7.below b8
  have ox0_8 := ox0_7.below b8
  have ox1_8 := ox1_7.below b8
  have og0_8 := og0_7.below b8
  clear ow0_7 ox0_7 ox1_7 og0_7 bb7 b8
  go_wp2_with fail
  refine (of_drew (eqIntS_refl (.slice Y4 x0.length cy4) (.slice Y8 x0.length cy8) x0 _ ox0_8.rd ot3_8.rd)).mono ?_
  rintro e w9 ⟨rfl, b9⟩
  have bb9 : Below w.heap.size w w9 := Below.then bb8 b9
  have ow0_9 := ow0_8.below b9
  have ox0_9 := ox0_8.below b9
  have ox1_9 := ox1_8.below b9
  have og0_9 := og0_8.below b9
  have ot3_9 := ot3_8.below b9
  clear ow0_8 ox0_8 ox1_8 og0_8 ot3_8 bb8 b9
  clear ot3_9
  go_wp2_with fail
  refine (toIntS_any (.slice A1 x1.length c1) x1 _ (R1.out.below bb9) (by omega)).mono ?_
  rintro e w10 ⟨y10, rfl, oo10, b10⟩
  obtain ⟨Y10, cy10, rfl, -, -, -⟩ := oo10.form
  have ap_w0_t4 := apart_of (fun k hk => (ow0_9.lt k hk).2) (fun k hk => (oo10.lt k hk).1)
  have ap_x0_t4 := apart_of (fun k hk => (ox0_9.lt k hk).2) (fun k hk => (oo10.lt k hk).1)
  have ap_x1_t4 := apart_of (fun k hk => (ox1_9.lt k hk).2) (fun k hk => (oo10.lt k hk).1)
  have ap_g0_t4 := apart_of (fun k hk => (og0_9.lt k hk).2) (fun k hk => (oo10.lt k hk).1)
  have ot4_10 : Own w10 w.heap.size (.slice Y10 x1.length cy10) x1 := oo10.mono bb9.size
  clear oo10
  have bb10 : Below w.heap.size w w10 := Below.then bb9 b10
  have ow0_10 := ow0_9.below b10
  have ox0_10 := ox0_9.below b10
  have ox1_10 := ox1_9.below b10
  have og0_10 := og0_9.below b10
  clear ow0_9 ox0_9 ox1_9 og0_9 bb9 b10
  go_wp2_with fail
  refine (of_drew (eqIntS_refl (.slice Y5 x1.length cy5) (.slice Y10 x1.length cy10) x1 _ ox1_10.rd ot4_10.rd)).mono ?_
  rintro e w11 ⟨rfl, b11⟩
  have bb11 : Below w.heap.size w w11 := Below.then bb10 b11
  have ow0_11 := ow0_10.below b11
  have ox0_11 := ox0_10.below b11
  have ox1_11 := ox1_10.below b11
  have og0_11 := og0_10.below b11
  have ot4_11 := ot4_10.below b11
  clear ow0_10 ox0_10 ox1_10 og0_10 ot4_10 bb10 b11
  clear ot4_11
  go_wp2_with fail
  refine (markIntS_any (.slice Y4 x0.length cy4) x0 w.heap.size (1 : Int) _ ox0_11 (by omega) (by omega) (by omega)).mono ?_
  rintro e w12 ⟨rfl, om12, g12⟩
  have bb12 : Below w.heap.size w w12 := Below.grown bb11 g12 bb11.size (fun k hk => (ox0_11.lt k hk).1)
  have ow0_12 := ow0_11.kept g12 ap_w0_x0
  have ox1_12 := ox1_11.kept g12 (apart_symm ap_x0_x1)
  have og0_12 := og0_11.kept g12 (apart_symm ap_x0_g0)
  clear bb11 ow0_11 ox1_11 og0_11 ox0_11 g12
  go_wp2_with fail
  refine (markIntS_any (.slice Y5 x1.length cy5) x1 w.heap.size ((1 : Int) + (x0.length : Int)) _ ox1_12 (by omega) (by omega) (by omega)).mono ?_
  rintro e w13 ⟨rfl, om13, g13⟩
  have bb13 : Below w.heap.size w w13 := Below.grown bb12 g13 bb12.size (fun k hk => (ox1_12.lt k hk).1)
  have ow0_13 := ow0_12.kept g13 ap_w0_x1
  have ox0_13 := om12.kept g13 ap_x0_x1
  have og0_13 := og0_12.kept g13 (apart_symm ap_x1_g0)
  clear bb12 ow0_12 om12 og0_12 ox1_12 g13
  go_wp2_with fail
  refine (of_drew (eqIntS_refl (.slice Yy6 (mixL x0 x1 a2 a3).length cy6) (.slice Yy3 (mixL x0 x1 a2 a3).length cy3) (mixL x0 x1 a2 a3) _ og0_13.rd ow0_13.rd)).mono ?_
  rintro e w14 ⟨rfl, b14⟩
  have bb14 : Below w.heap.size w w14 := Below.then bb13 b14
  have ow0_14 := ow0_13.below b14
  have ox0_14 := ox0_13.below b14
  have ox1_14 := om13.below b14
  have og0_14 := og0_13.below b14
  clear ow0_13 ox0_13 om13 og0_13 bb13 b14
  go_wp2_with fail
  refine (markIntS_any (.slice Yy6 (mixL x0 x1 a2 a3).length cy6) (mixL x0 x1 a2 a3) w.heap.size (1 : Int) _ og0_14 (by have := mixL_len x0 x1 a2 a3; omega) (by omega) (by omega)).mono ?_
  rintro e w15 ⟨rfl, om15, g15⟩
  have bb15 : Below w.heap.size w w15 := Below.grown bb14 g15 bb14.size (fun k hk => (og0_14.lt k hk).1)
  have ow0_15 := ow0_14.kept g15 ap_w0_g0
  have ox0_15 := ox0_14.kept g15 ap_x0_g0
  have ox1_15 := ox1_14.kept g15 ap_x1_g0
  clear bb14 ow0_14 ox0_14 ox1_14 og0_14 g15
  go_wp2_with fail
  refine (of_same (heldMarks_any (.slice Yy6 (mixL x0 x1 a2 a3).length cy6) (mixL x0 x1 a2 a3).length (1 : Int) _ om15.rd (by have := mixL_len x0 x1 a2 a3; omega) (by omega) (by omega))).mono ?_
  rintro e w16 ⟨rfl, b16⟩
  have bb16 : Below w.heap.size w w16 := Below.then bb15 b16
  have ow0_16 := ow0_15.below b16
  have ox0_16 := ox0_15.below b16
  have ox1_16 := ox1_15.below b16
  have og0_16 := om15.below b16
  clear ow0_15 ox0_15 ox1_15 om15 bb15 b16
  go_wp2_with fail
  refine (toIntS_any (.slice A0 x0.length c0) x0 _ (R0.out.below bb16) (by omega)).mono ?_
  rintro e w17 ⟨y17, rfl, oo17, b17⟩
  obtain ⟨Y17, cy17, rfl, -, -, -⟩ := oo17.form
  have ap_w0_t5 := apart_of (fun k hk => (ow0_16.lt k hk).2) (fun k hk => (oo17.lt k hk).1)
  have ap_x0_t5 := apart_of (fun k hk => (ox0_16.lt k hk).2) (fun k hk => (oo17.lt k hk).1)
  have ap_x1_t5 := apart_of (fun k hk => (ox1_16.lt k hk).2) (fun k hk => (oo17.lt k hk).1)
  have ap_g0_t5 := apart_of (fun k hk => (og0_16.lt k hk).2) (fun k hk => (oo17.lt k hk).1)
  have ot5_17 : Own w17 w.heap.size (.slice Y17 x0.length cy17) x0 := oo17.mono bb16.size
  clear oo17
  have bb17 : Below w.heap.size w w17 := Below.then bb16 b17
  have ow0_17 := ow0_16.below b17
  have ox0_17 := ox0_16.below b17
  have ox1_17 := ox1_16.below b17
  have og0_17 := og0_16.below b17
  clear ow0_16 ox0_16 ox1_16 og0_16 bb16 b17
  go_wp2_with fail
  refine (toIntS_any (.slice A1 x1.length c1) x1 _ (R1.out.below bb17) (by omega)).mono ?_
  rintro e w18 ⟨y18, rfl, oo18, b18⟩
  obtain ⟨Y18, cy18, rfl, -, -, -⟩ := oo18.form
  have ap_w0_t6 := apart_of (fun k hk => (ow0_17.lt k hk).2) (fun k hk => (oo18.lt k hk).1)
  have ap_x0_t6 := apart_of (fun k hk => (ox0_17.lt k hk).2) (fun k hk => (oo18.lt k hk).1)
  have ap_x1_t6 := apart_of (fun k hk => (ox1_17.lt k hk).2) (fun k hk => (oo18.lt k hk).1)
  have ap_g0_t6 := apart_of (fun k hk => (og0_17.lt k hk).2) (fun k hk => (oo18.lt k hk).1)
  have ap_t5_t6 := apart_of (fun k hk => (ot5_17.lt k hk).2) (fun k hk => (oo18.lt k hk).1)
  have ot6_18 : Own w18 w.heap.size (.slice Y18 x1.length cy18) x1 := oo18.mono bb17.size
  clear oo18
  have bb18 : Below w.heap.size w w18 := Below.then bb17 b18
  have ow0_18 := ow0_17.below b18
  have ox0_18 := ox0_17.below b18
  have ox1_18 := ox1_17.below b18
  have og0_18 := og0_17.below b18
  have ot5_18 := ot5_17.below b18
  clear ow0_17 ox0_17 ox1_17 og0_17 ot5_17 bb17 b18
  go_wp2_with fail
  refine (implMix (.slice Y17 x0.length cy17) x0 (.slice Y18 x1.length cy18) x1 a2 a3 _ ot5_18.rd ot6_18.rd).mono ?_
  rintro e w19 ⟨y19, rfl, oy19, b19⟩
  obtain ⟨Yy19, cy19, rfl, -, -, -⟩ := oy19.form
  have ap_w0_h0 := apart_of (fun k hk => (ow0_18.lt k hk).2) (fun k hk => (oy19.lt k hk).1)
  have ap_x0_h0 := apart_of (fun k hk => (ox0_18.lt k hk).2) (fun k hk => (oy19.lt k hk).1)
  have ap_x1_h0 := apart_of (fun k hk => (ox1_18.lt k hk).2) (fun k hk => (oy19.lt k hk).1)
  have ap_g0_h0 := apart_of (fun k hk => (og0_18.lt k hk).2) (fun k hk => (oy19.lt k hk).1)
  have ap_t5_h0 := apart_of (fun k hk => (ot5_18.lt k hk).2) (fun k hk => (oy19.lt k hk).1)
  have ap_t6_h0 := apart_of (fun k hk => (ot6_18.lt k hk).2) (fun k hk => (oy19.lt k hk).1)
  have oh0_19 : Own w19 w.heap.size (.slice Yy19 (mixL x0 x1 a2 a3).length cy19) (mixL x0 x1 a2 a3) := oy19.mono bb18.size
  clear oy19
  have bb19 : Below w.heap.size w w19 := Below.then bb18 b19
  have ow0_19 := ow0_18.below b19
  have ox0_19 := ox0_18.below b19
  have ox1_19 := ox1_18.below b19
  have og0_19 := og0_18.below b19
  have ot5_19 := ot5_18.below b19
  have ot6_19 := ot6_18.below b19
  clear ow0_18 ox0_18 ox1_18 og0_18 ot5_18 ot6_18 bb18 b19
  clear ot5_19 ot6_19
  go_wp2_with fail
  refine (of_drew (eqIntS_refl (.slice Yy19 (mixL x0 x1 a2 a3).length cy19) (.slice Yy3 (mixL x0 x1 a2 a3).length cy3) (mixL x0 x1 a2 a3) _ oh0_19.rd ow0_19.rd)).mono ?_
  rintro e w20 ⟨rfl, b20⟩
  have bb20 : Below w.heap.size w w20 := Below.then bb19 b20
  have ow0_20 := ow0_19.below b20
  have ox0_20 := ox0_19.below b20
  have ox1_20 := ox1_19.below b20
  have og0_20 := og0_19.below b20
  have oh0_20 := oh0_19.below b20
  clear ow0_19 ox0_19 ox1_19 og0_19 oh0_19 bb19 b20
  go_wp2_with fail
  refine (of_same (heldMarks_any (.slice Yy6 (mixL x0 x1 a2 a3).length cy6) (mixL x0 x1 a2 a3).length (1 : Int) _ og0_20.rd (by have := mixL_len x0 x1 a2 a3; omega) (by omega) (by omega))).mono ?_
  rintro e w21 ⟨rfl, b21⟩
  have bb21 : Below w.heap.size w w21 := Below.then bb20 b21
  have ow0_21 := ow0_20.below b21
  have ox0_21 := ox0_20.below b21
  have ox1_21 := ox1_20.below b21
  have og0_21 := og0_20.below b21
  have oh0_21 := oh0_20.below b21
  clear ow0_20 ox0_20 ox1_20 og0_20 oh0_20 bb20 b21
  go_wp2_with fail
  go_ret
  exact ⟨rfl, bb21⟩
end Go.Proofs.Ytmcajbhillekjaa
