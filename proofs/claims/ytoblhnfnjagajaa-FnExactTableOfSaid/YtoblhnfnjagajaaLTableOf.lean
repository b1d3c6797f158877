/- FnExactTableOf: the walk of the law. -/
import Derived.Test.YtoblhnfnjagajaaTab3
import Derived.Test.YtoblhnfnjagajaaLgL
import Derived.Test.YtoblhnfnjagajaaFrame
import Derived.Test.YtoblhnfnjagajaaMarkR
import Derived.Deep.RegionHeld3
namespace Go.Proofs.Ytoblhnfnjagajaa
open Go.RowKit

set_option maxHeartbeats 2000000 in
theorem lawTableOf (v0 : Value) (w : World) (h0 : LeagueOpen w v0) :
    Calls Try.prog 6 #[v0] w fun e w' => e = .returned (.bool true) ∧ Below w.heap.size w w' := by
  obtain ⟨s0, x0, ⟨u0, rfl, r0⟩, i0, lo0, hi0⟩ := h0
  have R0 := Lib.hid r0
  have I0 := Lib.hid i0
  obtain ⟨A0, c0, rfl, -, -, -⟩ := r0
  clear i0
  by_cases hn0 : 0 ≤ (1048576 : Int) - (x0.length : Int)
  case neg =>
    go_enter Try.func6, Try.ntmps6
    go_wp2_with fail
    have b1 := below_alloc1 w (.cells #[.int .i64 s0, (.slice A0 x0.length c0)] 24)
    have tpaX_1 := TBox.new w s0 (.slice A0 x0.length c0) 24
    have g1 : w.heap.size < (w.alloc (.cells #[.int .i64 s0, (.slice A0 x0.length c0)] 24)).heap.size := by simp
    generalize w.alloc (.cells #[.int .i64 s0, (.slice A0 x0.length c0)] 24) = w1 at *
    have ya_paX_1 := tpaX_1.1
    have yb_paX_1 := tpaX_1.2
    clear g1
    have bb1 : Below w.heap.size w w1 := b1
    clear b1
    go_wp2_with fail
    refine (szLeague_any s0 (.slice A0 x0.length c0) x0 ((1048576 : Int)) _ (R0.out.below bb1) (by omega) (by omega)).mono ?_
    rintro e w2 ⟨rfl, b2⟩
    have bb2 : Below w.heap.size w w2 := Below.then bb1 b2
    have tpaX_2 := tpaX_1.below b2
    have ya_paX_2 := tpaX_2.1
    have yb_paX_2 := tpaX_2.2
    clear tpaX_1 ya_paX_1 yb_paX_1 bb1 b2
    rw [szI_no (by omega)]
    go_wp2_with fail
    go_ret
    exact ⟨rfl, bb2⟩
  go_enter Try.func6, Try.ntmps6
  go_wp2_with fail
  have b1 := below_alloc1 w (.cells #[.int .i64 s0, (.slice A0 x0.length c0)] 24)
  have tpaX_1 := TBox.new w s0 (.slice A0 x0.length c0) 24
  have g1 : w.heap.size < (w.alloc (.cells #[.int .i64 s0, (.slice A0 x0.length c0)] 24)).heap.size := by simp
  generalize w.alloc (.cells #[.int .i64 s0, (.slice A0 x0.length c0)] 24) = w1 at *
  have ya_paX_1 := tpaX_1.1
  have yb_paX_1 := tpaX_1.2
  clear g1
  have bb1 : Below w.heap.size w w1 := b1
  clear b1
  go_wp2_with fail
  refine (szLeague_any s0 (.slice A0 x0.length c0) x0 ((1048576 : Int)) _ (R0.out.below bb1) (by omega) (by omega)).mono ?_
  rintro e w2 ⟨rfl, b2⟩
  have bb2 : Below w.heap.size w w2 := Below.then bb1 b2
  have tpaX_2 := tpaX_1.below b2
  have ya_paX_2 := tpaX_2.1
  have yb_paX_2 := tpaX_2.2
  clear tpaX_1 ya_paX_1 yb_paX_1 bb1 b2
  rw [szI_yes (by omega)]
  go_wp2_with fail
  refine (toLeague_any s0 (.slice A0 x0.length c0) x0 _ (R0.out.below bb2) (by omega)).mono ?_
  rintro e w3 ⟨y3, rfl, oo3, b3⟩
  obtain ⟨Y3, cy3, rfl, -, -, -⟩ := oo3.form
  have nb_t1_paX := box_old_of tpaX_2 (fun k hk => (oo3.lt k hk).1)
  have ot1_3 : OwnR w3 w.heap.size (.slice Y3 x0.length cy3) x0 := oo3.mono bb2.size
  clear oo3
  have bb3 : Below w.heap.size w w3 := Below.then bb2 b3
  have tpaX_3 := tpaX_2.below b3
  have ya_paX_3 := tpaX_3.1
  have yb_paX_3 := tpaX_3.2
  clear tpaX_2 ya_paX_2 yb_paX_2 bb2 b3
  go_wp2_with fail
  refine (specTable s0 (.slice Y3 x0.length cy3) x0 _ ot1_3.rd).mono ?_
  rintro e w4 ⟨y4, rfl, oy4, b4⟩
  obtain ⟨Yy4, cy4, rfl, -, -, -⟩ := oy4.form
  have ap_t1_w0 := apart_of (fun k hk => (ot1_3.lt k hk).2) (fun k hk => (oy4.lt k hk).1)
  have nb_w0_paX := box_old_of tpaX_3 (fun k hk => (oy4.lt k hk).1)
  have ow0_4 : Own w4 w.heap.size (.slice Yy4 (tabL s0 x0).length cy4) (tabL s0 x0) := oy4.mono bb3.size
  clear oy4
  have bb4 : Below w.heap.size w w4 := Below.then bb3 b4
  have ot1_4 := ot1_3.below b4
  have tpaX_4 := tpaX_3.below b4
  have ya_paX_4 := tpaX_4.1
  have yb_paX_4 := tpaX_4.2
  clear ot1_3 tpaX_3 ya_paX_3 yb_paX_3 bb3 b4
  clear ot1_4
  go_wp2_with fail
  refine (toLeague_any s0 (.slice A0 x0.length c0) x0 _ (R0.out.below bb4) (by omega)).mono ?_
  rintro e w5 ⟨y5, rfl, oo5, b5⟩
  obtain ⟨Y5, cy5, rfl, -, -, -⟩ := oo5.form
  have ap_w0_x0 := apart_of (fun k hk => (ow0_4.lt k hk).2) (fun k hk => (oo5.lt k hk).1)
  have nb_x0_paX := box_old_of tpaX_4 (fun k hk => (oo5.lt k hk).1)
  have ox0_5 : OwnR w5 w.heap.size (.slice Y5 x0.length cy5) x0 := oo5.mono bb4.size
  clear oo5
  have bb5 : Below w.heap.size w w5 := Below.then bb4 b5
  have ow0_5 := ow0_4.below b5
  have tpaX_5 := tpaX_4.below b5
  have ya_paX_5 := tpaX_5.1
  have yb_paX_5 := tpaX_5.2
  clear ow0_4 tpaX_4 ya_paX_4 yb_paX_4 bb4 b5
  have pre_paX_0 := (tpaX_5.below (below_alloc1 w5 (.cells #[.int .i64 s0, (.slice Y5 x0.length cy5)] 28))).1
  have pre_paX_1 := (tpaX_5.below (below_alloc1 w5 (.cells #[.int .i64 s0, (.slice Y5 x0.length cy5)] 28))).2
  go_wp2_with fail
  have b6 := below_alloc1 w5 (.cells #[.int .i64 s0, (.slice Y5 x0.length cy5)] 28)
  have tbx0_6 := TBox.new w5 s0 (.slice Y5 x0.length cy5) 28
  have nb_w0_bx0 := box_new_of (fun k hk => (ow0_5.lt k hk).2)
  have nb_x0_bx0 := box_new_of (fun k hk => (ox0_5.lt k hk).2)
  have g6 : w5.heap.size < (w5.alloc (.cells #[.int .i64 s0, (.slice Y5 x0.length cy5)] 28)).heap.size := by simp
  generalize w5.alloc (.cells #[.int .i64 s0, (.slice Y5 x0.length cy5)] 28) = w6 at *
  have ya_bx0_6 := tbx0_6.1
  have yb_bx0_6 := tbx0_6.2
  clear g6
  have bb6 : Below w.heap.size w w6 := Below.then bb5 b6
  have ow0_6 := ow0_5.below b6
  have ox0_6 := ox0_5.below b6
  have tpaX_6 := tpaX_5.below b6
  have ya_paX_6 := tpaX_6.1
  have yb_paX_6 := tpaX_6.2
  clear ow0_5 ox0_5 tpaX_5 ya_paX_5 yb_paX_5 bb5 b6
  clear pre_paX_0 pre_paX_1
  go_wp2_with fail
  refine (implTable s0 (.slice Y5 x0.length cy5) x0 _ ox0_6.rd).mono ?_
  rintro e w7 ⟨y7, rfl, oy7, b7⟩
  obtain ⟨Yy7, cy7, rfl, -, -, -⟩ := oy7.form
  have ap_w0_g0 := apart_of (fun k hk => (ow0_6.lt k hk).2) (fun k hk => (oy7.lt k hk).1)
  have ap_x0_g0 := apart_of (fun k hk => (ox0_6.lt k hk).2) (fun k hk => (oy7.lt k hk).1)
  have nb_g0_paX := box_old_of tpaX_6 (fun k hk => (oy7.lt k hk).1)
  have nb_g0_bx0 := box_old_of tbx0_6 (fun k hk => (oy7.lt k hk).1)
  have og0_7 : Own w7 w.heap.size (.slice Yy7 (tabL s0 x0).length cy7) (tabL s0 x0) := oy7.mono bb6.size
  clear oy7
  have bb7 : Below w.heap.size w w7 := Below.then bb6 b7
  have ow0_7 := ow0_6.below b7
  have ox0_7 := ox0_6.below b7
  have tpaX_7 := tpaX_6.below b7
  have ya_paX_7 := tpaX_7.1
  have yb_paX_7 := tpaX_7.2
  have tbx0_7 := tbx0_6.below b7
  have ya_bx0_7 := tbx0_7.1
  have yb_bx0_7 := tbx0_7.2
  clear ow0_6 ox0_6 tpaX_6 ya_paX_6 yb_paX_6 tbx0_6 ya_bx0_6 yb_bx0_6 bb6 b7
  go_wp2_with fail
  refine (of_drew (eqIntS_refl (.slice Yy7 (tabL s0 x0).length cy7) (.slice Yy4 (tabL s0 x0).length cy4) (tabL s0 x0) _ og0_7.rd ow0_7.rd)).mono ?_
  rintro e w8 ⟨rfl, b8⟩
  have bb8 : Below w.heap.size w w8 := Below.then bb7 b8
  have ow0_8 := ow0_7.below b8
  have ox0_8 := ox0_7.below b8
  have og0_8 := og0_7.below b8
  have tpaX_8 := tpaX_7.below b8
  have ya_paX_8 := tpaX_8.1
  have yb_paX_8 := tpaX_8.2
  have tbx0_8 := tbx0_7.below b8
  have ya_bx0_8 := tbx0_8.1
  have yb_bx0_8 := tbx0_8.2
  clear ow0_7 ox0_7 og0_7 tpaX_7 ya_paX_7 yb_paX_7 tbx0_7 ya_bx0_7 yb_bx0_7 bb7 b8
  go_wp2_with fail
  have bd_8 : Below w.heap.size w w8.drew := bb8.drew
  have odw0_8 : Own w8.drew w.heap.size (.slice Yy4 (tabL s0 x0).length cy4) (tabL s0 x0) := ow0_8
  have odx0_8 : OwnR w8.drew w.heap.size (.slice Y5 x0.length cy5) x0 := ox0_8
  have odg0_8 : Own w8.drew w.heap.size (.slice Yy7 (tabL s0 x0).length cy7) (tabL s0 x0) := og0_8
  have tdpaX_8 : TBox w8.drew w.heap.size s0 (.slice A0 x0.length c0) := tpaX_8
  have tdbx0_8 : TBox w8.drew w5.heap.size s0 (.slice Y5 x0.length cy5) := tbx0_8
  go_region_held3 (fun W => W.cell? ⟨w.heap.size, 0, none⟩ = some (.int .i64 s0) ∧ W.cell? ⟨w.heap.size, 1, none⟩ = some (.slice A0 x0.length c0) ∧ W.cell? ⟨w5.heap.size, 0, none⟩ = some (.int .i64 s0) ∧ W.cell? ⟨w5.heap.size, 1, none⟩ = some (.slice Y5 x0.length cy5))
    (first | exact ⟨ya_paX_8, yb_paX_8, ya_bx0_8, yb_bx0_8⟩ | exact ⟨ya_paX_9, yb_paX_9, ya_bx0_9, yb_bx0_9⟩ | exact ⟨ya_paX_10, yb_paX_10, ya_bx0_10, yb_bx0_10⟩)
    (first
      | (go_at_call 17; refine (toLeague_any s0 (.slice A0 x0.length c0) x0 _ (R0.out.below bd_8) (by omega)).mono ?_; rintro e w9 ⟨y9, rfl, oo9, b9⟩; obtain ⟨Y9, cy9, rfl, -, -, -⟩ := oo9.form; have ap_w0_t2 := apart_of (fun k hk => (odw0_8.lt k hk).2) (fun k hk => (oo9.lt k hk).1); have ap_x0_t2 := apart_of (fun k hk => (odx0_8.lt k hk).2) (fun k hk => (oo9.lt k hk).1); have ap_g0_t2 := apart_of (fun k hk => (odg0_8.lt k hk).2) (fun k hk => (oo9.lt k hk).1); have nb_t2_paX := box_old_of tdpaX_8 (fun k hk => (oo9.lt k hk).1); have nb_t2_bx0 := box_old_of tdbx0_8 (fun k hk => (oo9.lt k hk).1); have ot2_9 : OwnR w9 w.heap.size (.slice Y9 x0.length cy9) x0 := oo9.mono bd_8.size; have bb9 : Below w.heap.size w w9 := Below.then bd_8 b9; have ow0_9 := odw0_8.below b9; have ox0_9 := odx0_8.below b9; have og0_9 := odg0_8.below b9; have tpaX_9 := tdpaX_8.below b9; have ya_paX_9 := tpaX_9.1; have yb_paX_9 := tpaX_9.2; have tbx0_9 := tdbx0_8.below b9; have ya_bx0_9 := tbx0_9.1; have yb_bx0_9 := tbx0_9.2)
      | (go_at_call 19; refine (eqLeague_refl s0 (.slice Y5 x0.length cy5) (.slice Y9 x0.length cy9) x0 _ ox0_9.rd ot2_9.rd).mono ?_; rintro e w10 ⟨rfl, b10⟩; have bb10 : Below w.heap.size w w10 := Below.then bb9 b10; have ow0_10 := ow0_9.below b10; have ox0_10 := ox0_9.below b10; have og0_10 := og0_9.below b10; have ot2_10 := ot2_9.below b10; have tpaX_10 := tpaX_9.below b10; have ya_paX_10 := tpaX_10.1; have yb_paX_10 := tpaX_10.2; have tbx0_10 := tbx0_9.below b10; have ya_bx0_10 := tbx0_10.1; have yb_bx0_10 := tbx0_10.2))
  clear bb8 ow0_8 ox0_8 og0_8 tpaX_8 tbx0_8 oo9 odw0_8 odx0_8 odg0_8 tdpaX_8 ya_paX_8 yb_paX_8 tdbx0_8 ya_bx0_8 yb_bx0_8 bd_8 b9 ow0_9 ox0_9 og0_9 ot2_9 tpaX_9 ya_paX_9 yb_paX_9 tbx0_9 ya_bx0_9 yb_bx0_9 bb9 b10
  clear ot2_10
  go_wp2_with fail
  refine (markLeague_any s0 (.slice Y5 x0.length cy5) x0 w.heap.size (1 : Int) _ ox0_10 (by omega) (by omega) (by omega)).mono ?_
  rintro e w11 ⟨rfl, om11, g11⟩
  have bb11 : Below w.heap.size w w11 := Below.grown bb10 g11 bb10.size (fun k hk => (ox0_10.lt k hk).1)
  have ow0_11 := ow0_10.kept g11 ap_w0_x0
  have og0_11 := og0_10.kept g11 (apart_symm ap_x0_g0)
  have tpaX_11 := tpaX_10.kept g11 (nb_ne nb_x0_paX)
  have ya_paX_11 := tpaX_11.1
  have yb_paX_11 := tpaX_11.2
  have tbx0_11 := tbx0_10.kept g11 (nb_ne nb_x0_bx0)
  have ya_bx0_11 := tbx0_11.1
  have yb_bx0_11 := tbx0_11.2
  clear bb10 ow0_10 og0_10 tpaX_10 ya_paX_10 yb_paX_10 tbx0_10 ya_bx0_10 yb_bx0_10 ox0_10 g11
  go_wp2_with fail
  refine (of_drew (eqIntS_refl (.slice Yy7 (tabL s0 x0).length cy7) (.slice Yy4 (tabL s0 x0).length cy4) (tabL s0 x0) _ og0_11.rd ow0_11.rd)).mono ?_
  rintro e w12 ⟨rfl, b12⟩
  have bb12 : Below w.heap.size w w12 := Below.then bb11 b12
  have ow0_12 := ow0_11.below b12
  have ox0_12 := om11.below b12
  have og0_12 := og0_11.below b12
  have tpaX_12 := tpaX_11.below b12
  have ya_paX_12 := tpaX_12.1
  have yb_paX_12 := tpaX_12.2
  have tbx0_12 := tbx0_11.below b12
  have ya_bx0_12 := tbx0_12.1
  have yb_bx0_12 := tbx0_12.2
  clear ow0_11 om11 og0_11 tpaX_11 ya_paX_11 yb_paX_11 tbx0_11 ya_bx0_11 yb_bx0_11 bb11 b12
  go_wp2_with fail
  refine (markIntS_any (.slice Yy7 (tabL s0 x0).length cy7) (tabL s0 x0) w.heap.size (1 : Int) _ og0_12 (by have := tabL_len s0 x0; omega) (by omega) (by omega)).mono ?_
  rintro e w13 ⟨rfl, om13, g13⟩
  have bb13 : Below w.heap.size w w13 := Below.grown bb12 g13 bb12.size (fun k hk => (og0_12.lt k hk).1)
  have ow0_13 := ow0_12.kept g13 ap_w0_g0
  have ox0_13 := ox0_12.kept g13 ap_x0_g0
  have tpaX_13 := tpaX_12.kept g13 (nb_ne nb_g0_paX)
  have ya_paX_13 := tpaX_13.1
  have yb_paX_13 := tpaX_13.2
  have tbx0_13 := tbx0_12.kept g13 (nb_ne nb_g0_bx0)
  have ya_bx0_13 := tbx0_13.1
  have yb_bx0_13 := tbx0_13.2
  clear bb12 ow0_12 ox0_12 tpaX_12 ya_paX_12 yb_paX_12 tbx0_12 ya_bx0_12 yb_bx0_12 og0_12 g13
  go_wp2_with fail
  refine (of_same (heldMarks_any (.slice Yy7 (tabL s0 x0).length cy7) (tabL s0 x0).length (1 : Int) _ om13.rd (by have := tabL_len s0 x0; omega) (by omega) (by omega))).mono ?_
  rintro e w14 ⟨rfl, b14⟩
  have bb14 : Below w.heap.size w w14 := Below.then bb13 b14
  have ow0_14 := ow0_13.below b14
  have ox0_14 := ox0_13.below b14
  have og0_14 := om13.below b14
  have tpaX_14 := tpaX_13.below b14
  have ya_paX_14 := tpaX_14.1
  have yb_paX_14 := tpaX_14.2
  have tbx0_14 := tbx0_13.below b14
  have ya_bx0_14 := tbx0_14.1
  have yb_bx0_14 := tbx0_14.2
  clear ow0_13 ox0_13 om13 tpaX_13 ya_paX_13 yb_paX_13 tbx0_13 ya_bx0_13 yb_bx0_13 bb13 b14
  go_wp2_with fail
  refine (toLeague_any s0 (.slice A0 x0.length c0) x0 _ (R0.out.below bb14) (by omega)).mono ?_
  rintro e w15 ⟨y15, rfl, oo15, b15⟩
  obtain ⟨Y15, cy15, rfl, -, -, -⟩ := oo15.form
  have ap_w0_t3 := apart_of (fun k hk => (ow0_14.lt k hk).2) (fun k hk => (oo15.lt k hk).1)
  have ap_x0_t3 := apart_of (fun k hk => (ox0_14.lt k hk).2) (fun k hk => (oo15.lt k hk).1)
  have ap_g0_t3 := apart_of (fun k hk => (og0_14.lt k hk).2) (fun k hk => (oo15.lt k hk).1)
  have nb_t3_paX := box_old_of tpaX_14 (fun k hk => (oo15.lt k hk).1)
  have nb_t3_bx0 := box_old_of tbx0_14 (fun k hk => (oo15.lt k hk).1)
  have ot3_15 : OwnR w15 w.heap.size (.slice Y15 x0.length cy15) x0 := oo15.mono bb14.size
  clear oo15
  have bb15 : Below w.heap.size w w15 := Below.then bb14 b15
  have ow0_15 := ow0_14.below b15
  have ox0_15 := ox0_14.below b15
  have og0_15 := og0_14.below b15
  have tpaX_15 := tpaX_14.below b15
  have ya_paX_15 := tpaX_15.1
  have yb_paX_15 := tpaX_15.2
  have tbx0_15 := tbx0_14.below b15
  have ya_bx0_15 := tbx0_15.1
  have yb_bx0_15 := tbx0_15.2
  clear ow0_14 ox0_14 og0_14 tpaX_14 ya_paX_14 yb_paX_14 tbx0_14 ya_bx0_14 yb_bx0_14 bb14 b15
  go_wp2_with fail
  refine (implTable s0 (.slice Y15 x0.length cy15) x0 _ ot3_15.rd).mono ?_
  rintro e w16 ⟨y16, rfl, oy16, b16⟩
  obtain ⟨Yy16, cy16, rfl, -, -, -⟩ := oy16.form
  have ap_w0_h0 := apart_of (fun k hk => (ow0_15.lt k hk).2) (fun k hk => (oy16.lt k hk).1)
  have ap_x0_h0 := apart_of (fun k hk => (ox0_15.lt k hk).2) (fun k hk => (oy16.lt k hk).1)
  have ap_g0_h0 := apart_of (fun k hk => (og0_15.lt k hk).2) (fun k hk => (oy16.lt k hk).1)
  have ap_t3_h0 := apart_of (fun k hk => (ot3_15.lt k hk).2) (fun k hk => (oy16.lt k hk).1)
  have nb_h0_paX := box_old_of tpaX_15 (fun k hk => (oy16.lt k hk).1)
  have nb_h0_bx0 := box_old_of tbx0_15 (fun k hk => (oy16.lt k hk).1)
  have oh0_16 : Own w16 w.heap.size (.slice Yy16 (tabL s0 x0).length cy16) (tabL s0 x0) := oy16.mono bb15.size
  clear oy16
  have bb16 : Below w.heap.size w w16 := Below.then bb15 b16
  have ow0_16 := ow0_15.below b16
  have ox0_16 := ox0_15.below b16
  have og0_16 := og0_15.below b16
  have ot3_16 := ot3_15.below b16
  have tpaX_16 := tpaX_15.below b16
  have ya_paX_16 := tpaX_16.1
  have yb_paX_16 := tpaX_16.2
  have tbx0_16 := tbx0_15.below b16
  have ya_bx0_16 := tbx0_16.1
  have yb_bx0_16 := tbx0_16.2
  clear ow0_15 ox0_15 og0_15 ot3_15 tpaX_15 ya_paX_15 yb_paX_15 tbx0_15 ya_bx0_15 yb_bx0_15 bb15 b16
  clear ot3_16
  go_wp2_with fail
  refine (of_drew (eqIntS_refl (.slice Yy16 (tabL s0 x0).length cy16) (.slice Yy4 (tabL s0 x0).length cy4) (tabL s0 x0) _ oh0_16.rd ow0_16.rd)).mono ?_
  rintro e w17 ⟨rfl, b17⟩
  have bb17 : Below w.heap.size w w17 := Below.then bb16 b17
  have ow0_17 := ow0_16.below b17
  have ox0_17 := ox0_16.below b17
  have og0_17 := og0_16.below b17
  have oh0_17 := oh0_16.below b17
  have tpaX_17 := tpaX_16.below b17
  have ya_paX_17 := tpaX_17.1
  have yb_paX_17 := tpaX_17.2
  have tbx0_17 := tbx0_16.below b17
  have ya_bx0_17 := tbx0_17.1
  have yb_bx0_17 := tbx0_17.2
  clear ow0_16 ox0_16 og0_16 oh0_16 tpaX_16 ya_paX_16 yb_paX_16 tbx0_16 ya_bx0_16 yb_bx0_16 bb16 b17
  go_wp2_with fail
  refine (of_same (heldMarks_any (.slice Yy7 (tabL s0 x0).length cy7) (tabL s0 x0).length (1 : Int) _ og0_17.rd (by have := tabL_len s0 x0; omega) (by omega) (by omega))).mono ?_
  rintro e w18 ⟨rfl, b18⟩
  have bb18 : Below w.heap.size w w18 := Below.then bb17 b18
  have ow0_18 := ow0_17.below b18
  have ox0_18 := ox0_17.below b18
  have og0_18 := og0_17.below b18
  have oh0_18 := oh0_17.below b18
  have tpaX_18 := tpaX_17.below b18
  have ya_paX_18 := tpaX_18.1
  have yb_paX_18 := tpaX_18.2
  have tbx0_18 := tbx0_17.below b18
  have ya_bx0_18 := tbx0_18.1
  have yb_bx0_18 := tbx0_18.2
  clear ow0_17 ox0_17 og0_17 oh0_17 tpaX_17 ya_paX_17 yb_paX_17 tbx0_17 ya_bx0_17 yb_bx0_17 bb17 b18
  go_wp2_with fail
  go_ret
  exact ⟨rfl, bb18⟩
end Go.Proofs.Ytoblhnfnjagajaa
