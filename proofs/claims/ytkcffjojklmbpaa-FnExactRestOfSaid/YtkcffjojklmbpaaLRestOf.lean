/- FnExactRestOf: the walk of the law. -/
import Derived.Test.YtkcffjojklmbpaaRest
import Derived.Test.YtkcffjojklmbpaaLgL
import Derived.Test.YtkcffjojklmbpaaFrame
import Derived.Test.YtkcffjojklmbpaaRowsF
import Derived.Test.YtkcffjojklmbpaaMarkR
import Derived.Deep.RegionHeld3
namespace Go.Proofs.Ytkcffjojklmbpaa
open Go.RowKit

set_option maxHeartbeats 2000000 in
theorem lawRestOf (v0 v1 : Value) (w : World) (h0 : LeagueOpen w v0) (h1 : IntV v1) :
    Calls Try.prog 3 #[v0, v1] w fun e w' => e = .returned (.bool true) ∧ Below w.heap.size w w' := by
  obtain ⟨s0, x0, ⟨u0, rfl, r0⟩, i0, lo0, hi0⟩ := h0
  have R0 := Lib.hid r0
  have I0 := Lib.hid i0
  obtain ⟨A0, c0, rfl, -, -, -⟩ := r0
  clear i0
  obtain ⟨a1, rfl, lo1, hi1⟩ := h1
  by_cases hn0 : 0 ≤ (1048576 : Int) - (x0.length : Int)
  case neg =>
    go_enter Try.func3, Try.ntmps3
    go_wp2_with fail
    have b1 := below_alloc1 w (.cells #[.int .i64 s0, (.slice A0 x0.length c0)] 24)
    have tpaX_1 := TBox.new w s0 (.slice A0 x0.length c0) 24
    have g1 : w.heap.size < (w.alloc (.cells #[.int .i64 s0, (.slice A0 x0.length c0)] 24)).heap.size := by simp
    generalize w.alloc (.cells #[.int .i64 s0, (.slice A0 x0.length c0)] 24) = w1 at *
    have ya_paX_1 := tpaX_1.1
    have yb_paX_1 := tpaX_1.2
    clear g1
    have bb1 : Below w.heap.size w w1 := b1
    clear b1
    go_wp2_with fail
    refine (szLeague_any s0 (.slice A0 x0.length c0) x0 ((1048576 : Int)) _ (R0.out.below bb1) (by omega) (by omega)).mono ?_
    rintro e w2 ⟨rfl, b2⟩
    have bb2 : Below w.heap.size w w2 := Below.then bb1 b2
    have tpaX_2 := tpaX_1.below b2
    have ya_paX_2 := tpaX_2.1
    have yb_paX_2 := tpaX_2.2
    clear tpaX_1 ya_paX_1 yb_paX_1 bb1 b2
    rw [szI_no (by omega)]
    go_wp2_with fail
    go_ret
    exact ⟨rfl, bb2⟩
  go_enter Try.func3, Try.ntmps3
  go_wp2_with fail
  have b1 := below_alloc1 w (.cells #[.int .i64 s0, (.slice A0 x0.length c0)] 24)
  have tpaX_1 := TBox.new w s0 (.slice A0 x0.length c0) 24
  have g1 : w.heap.size < (w.alloc (.cells #[.int .i64 s0, (.slice A0 x0.length c0)] 24)).heap.size := by simp
  generalize w.alloc (.cells #[.int .i64 s0, (.slice A0 x0.length c0)] 24) = w1 at *
  have ya_paX_1 := tpaX_1.1
  have yb_paX_1 := tpaX_1.2
  clear g1
  have bb1 : Below w.heap.size w w1 := b1
  clear b1
  go_wp2_with fail
  refine (szLeague_any s0 (.slice A0 x0.length c0) x0 ((1048576 : Int)) _ (R0.out.below bb1) (by omega) (by omega)).mono ?_
  rintro e w2 ⟨rfl, b2⟩
  have bb2 : Below w.heap.size w w2 := Below.then bb1 b2
  have tpaX_2 := tpaX_1.below b2
  have ya_paX_2 := tpaX_2.1
  have yb_paX_2 := tpaX_2.2
  clear tpaX_1 ya_paX_1 yb_paX_1 bb1 b2
  rw [szI_yes (by omega)]
  go_wp2_with fail
  refine (toLeague_any s0 (.slice A0 x0.length c0) x0 _ (R0.out.below bb2) (by omega)).mono ?_
  rintro e w3 ⟨y3, rfl, oo3, b3⟩
  obtain ⟨Y3, cy3, rfl, -, -, -⟩ := oo3.form
  have nb_t1_paX := box_old_of tpaX_2 (fun k hk => (oo3.lt k hk).1)
  have ot1_3 : OwnR w3 w.heap.size (.slice Y3 x0.length cy3) x0 := oo3.mono bb2.size
  clear oo3
  have bb3 : Below w.heap.size w w3 := Below.then bb2 b3
  have tpaX_3 := tpaX_2.below b3
  have ya_paX_3 := tpaX_3.1
  have yb_paX_3 := tpaX_3.2
  clear tpaX_2 ya_paX_2 yb_paX_2 bb2 b3
  go_wp2_with fail
  refine (specRest s0 (.slice Y3 x0.length cy3) x0 a1 _ ot1_3.rd).mono ?_
  rintro e w4 ⟨y4, rfl, oy4, b4⟩
  obtain ⟨Yy4, cy4, rfl, -, -, -⟩ := oy4.form
  have RW := Lib.hid oy4.rdr
  clear oy4 ot1_3
  have bb4 : Below w.heap.size w w4 := Below.then bb3 b4
  have BS4 : Below w4.heap.size w4 w4 := Below.refl _ _
  have tpaX_4 := tpaX_3.below b4
  have ya_paX_4 := tpaX_4.1
  have yb_paX_4 := tpaX_4.2
  clear tpaX_3 ya_paX_3 yb_paX_3
  clear bb3 b4
  have HLEN := Lib.hid (Nat.le_trans (sum_bd (restL s0 x0 a1) 3 (restL_bd s0 x0 a1).2) (Nat.mul_le_mul_left 3 (restL_bd s0 x0 a1).1))
  go_wp2_with fail
  refine (toLeague_any s0 (.slice A0 x0.length c0) x0 _ (R0.out.below bb4) (by omega)).mono ?_
  rintro e w5 ⟨y5, rfl, oo5, b5⟩
  obtain ⟨Y5, cy5, rfl, -, -, -⟩ := oo5.form
  have lo_x0 := fun k hk => (oo5.lt k hk).1
  have nb_x0_paX := box_old_of tpaX_4 (fun k hk => (oo5.lt k hk).1)
  have ox0_5 : OwnR w5 w.heap.size (.slice Y5 x0.length cy5) x0 := oo5.mono bb4.size
  clear oo5
  have bb5 : Below w.heap.size w w5 := Below.then bb4 b5
  have BS5 : Below w4.heap.size w4 w5 := Below.then BS4 b5
  have tpaX_5 := tpaX_4.below b5
  have ya_paX_5 := tpaX_5.1
  have yb_paX_5 := tpaX_5.2
  clear tpaX_4 ya_paX_4 yb_paX_4
  clear bb4 BS4 b5
  have pre_paX_0 := (tpaX_5.below (below_alloc1 w5 (.cells #[.int .i64 s0, (.slice Y5 x0.length cy5)] 30))).1
  have pre_paX_1 := (tpaX_5.below (below_alloc1 w5 (.cells #[.int .i64 s0, (.slice Y5 x0.length cy5)] 30))).2
  go_wp2_with fail
  have b6 := below_alloc1 w5 (.cells #[.int .i64 s0, (.slice Y5 x0.length cy5)] 30)
  have tbx0_6 := TBox.new w5 s0 (.slice Y5 x0.length cy5) 30
  have nb_x0_bx0 := box_new_of (fun k hk => (ox0_5.lt k hk).2)
  have g6 : w5.heap.size < (w5.alloc (.cells #[.int .i64 s0, (.slice Y5 x0.length cy5)] 30)).heap.size := by simp
  generalize w5.alloc (.cells #[.int .i64 s0, (.slice Y5 x0.length cy5)] 30) = w6 at *
  have ya_bx0_6 := tbx0_6.1
  have yb_bx0_6 := tbx0_6.2
  clear g6 pre_paX_0 pre_paX_1
  have bb6 : Below w.heap.size w w6 := Below.then bb5 b6
  have BS6 : Below w4.heap.size w4 w6 := Below.then BS5 b6
  have ox0_6 := ox0_5.below b6
  have tpaX_6 := tpaX_5.below b6
  have ya_paX_6 := tpaX_6.1
  have yb_paX_6 := tpaX_6.2
  clear tpaX_5 ya_paX_5 yb_paX_5
  clear bb5 BS5 ox0_5 b6
  have lo_g0 : w.heap.size ≤ w6.heap.size ∧ w4.heap.size ≤ w6.heap.size ∧ w.heap.size < w6.heap.size := ⟨bb6.size, BS6.size, World.block_lt_of_cell? w6 _ tpaX_6.1⟩
  have lo_x6 := fun k hk => (ox0_6.lt k hk).2
  go_wp2_with fail
  refine (implRest s0 (.slice Y5 x0.length cy5) x0 a1 _ ox0_6.rd).mono ?_
  rintro e w7 ⟨y7, rfl, og0_7, b7⟩
  obtain ⟨Yy7, cy7, rfl, -, -, -⟩ := og0_7.form
  have z7 : w6.heap.size ≤ w7.heap.size := b7.size
  have bb7 : Below w.heap.size w w7 := Below.then bb6 b7
  have BS7 : Below w4.heap.size w4 w7 := Below.then BS6 b7
  have ox0_7 := ox0_6.below b7
  have tpaX_7 := tpaX_6.below b7
  have ya_paX_7 := tpaX_7.1
  have yb_paX_7 := tpaX_7.2
  clear tpaX_6 ya_paX_6 yb_paX_6
  have tbx0_7 := tbx0_6.below b7
  have ya_bx0_7 := tbx0_7.1
  have yb_bx0_7 := tbx0_7.2
  clear tbx0_6 ya_bx0_6 yb_bx0_6
  clear bb6 BS6 ox0_6 b7
  go_wp2_with fail
  refine (eqIntSS_refl (.slice Yy7 (restL s0 x0 a1).length cy7) (.slice Yy4 (restL s0 x0 a1).length cy4) (restL s0 x0 a1) _ og0_7.rdr (RW.out.below BS7)).mono ?_
  rintro e w8 ⟨rfl, b8⟩
  have z8 : w6.heap.size ≤ w8.heap.size := Nat.le_trans z7 b8.size
  have bb8 : Below w.heap.size w w8 := Below.then bb7 b8
  have BS8 : Below w4.heap.size w4 w8 := Below.then BS7 b8
  have ox0_8 := ox0_7.below b8
  have og0_8 := og0_7.below b8
  have tpaX_8 := tpaX_7.below b8
  have ya_paX_8 := tpaX_8.1
  have yb_paX_8 := tpaX_8.2
  clear tpaX_7 ya_paX_7 yb_paX_7
  have tbx0_8 := tbx0_7.below b8
  have ya_bx0_8 := tbx0_8.1
  have yb_bx0_8 := tbx0_8.2
  clear tbx0_7 ya_bx0_7 yb_bx0_7
  clear bb7 BS7 ox0_7 og0_7 b8
  go_wp2_with fail
  have bd_8 : Below w.heap.size w w8.drew := bb8.drew
  have BD_8 : Below w4.heap.size w4 w8.drew := BS8.drew
  have odx0_8 : OwnR w8.drew w.heap.size (.slice Y5 x0.length cy5) x0 := ox0_8
  have odg0_8 : OwnRows w8.drew w6.heap.size (.slice Yy7 (restL s0 x0 a1).length cy7) (restL s0 x0 a1) := og0_8
  have tdpaX_8 : TBox w8.drew w.heap.size s0 (.slice A0 x0.length c0) := tpaX_8
  have tdbx0_8 : TBox w8.drew w5.heap.size s0 (.slice Y5 x0.length cy5) := tbx0_8
  go_region_held3 (fun W => W.cell? ⟨w.heap.size, 0, none⟩ = some (.int .i64 s0) ∧ W.cell? ⟨w.heap.size, 1, none⟩ = some (.slice A0 x0.length c0) ∧ W.cell? ⟨w5.heap.size, 0, none⟩ = some (.int .i64 s0) ∧ W.cell? ⟨w5.heap.size, 1, none⟩ = some (.slice Y5 x0.length cy5))
    (first | exact ⟨ya_paX_8, yb_paX_8, ya_bx0_8, yb_bx0_8⟩ | exact ⟨ya_paX_9, yb_paX_9, ya_bx0_9, yb_bx0_9⟩ | exact ⟨ya_paX_10, yb_paX_10, ya_bx0_10, yb_bx0_10⟩)
    (first
      | (go_at_call 11; refine (toLeague_any s0 (.slice A0 x0.length c0) x0 _ (R0.out.below bd_8) (by omega)).mono ?_; rintro e w9 ⟨y9, rfl, oo9, b9⟩; obtain ⟨Y9, cy9, rfl, -, -, -⟩ := oo9.form; have z9 : w6.heap.size ≤ w9.heap.size := Nat.le_trans z8 b9.size; have bb9 : Below w.heap.size w w9 := Below.then bd_8 b9; have BS9 : Below w4.heap.size w4 w9 := Below.then BD_8 b9; have ox0_9 := odx0_8.below b9; have og0_9 := odg0_8.below b9; have tpaX_9 := tdpaX_8.below b9; have ya_paX_9 := tpaX_9.1; have yb_paX_9 := tpaX_9.2; have tbx0_9 := tdbx0_8.below b9; have ya_bx0_9 := tbx0_9.1; have yb_bx0_9 := tbx0_9.2)
      | (go_at_call 14; refine (eqLeague_refl s0 (.slice Y5 x0.length cy5) (.slice Y9 x0.length cy9) x0 _ ox0_9.rd oo9.rd).mono ?_; rintro e w10 ⟨rfl, b10⟩; have z10 : w6.heap.size ≤ w10.heap.size := Nat.le_trans z9 b10.size; have bb10 : Below w.heap.size w w10 := Below.then bb9 b10; have BS10 : Below w4.heap.size w4 w10 := Below.then BS9 b10; have ox0_10 := ox0_9.below b10; have og0_10 := og0_9.below b10; have tpaX_10 := tpaX_9.below b10; have ya_paX_10 := tpaX_10.1; have yb_paX_10 := tpaX_10.2; have tbx0_10 := tbx0_9.below b10; have ya_bx0_10 := tbx0_10.1; have yb_bx0_10 := tbx0_10.2))
  clear bb8 BS8 ox0_8 og0_8 tpaX_8 tbx0_8 oo9 odx0_8 odg0_8 tdpaX_8 ya_paX_8 yb_paX_8 tdbx0_8 ya_bx0_8 yb_bx0_8 bd_8 BD_8 b9 ox0_9 og0_9 tpaX_9 ya_paX_9 yb_paX_9 tbx0_9 ya_bx0_9 yb_bx0_9 bb9 BS9 b10
  go_wp2_with fail
  refine (markLeague_any s0 (.slice Y5 x0.length cy5) x0 w.heap.size (1 : Int) _ ox0_10 (by omega) (by omega) (by omega)).mono ?_
  rintro e w11 ⟨rfl, om11, g11⟩
  have z11 : w6.heap.size ≤ w11.heap.size := Nat.le_trans z10 g11.size
  have bb11 : Below w.heap.size w w11 := Below.grown bb10 g11 bb10.size (fun k hk => (ox0_10.lt k hk).1)
  have BS11 : Below w4.heap.size w4 w11 := Below.grown BS10 g11 BS10.size lo_x0
  have og0_11 := og0_10.kept_lo g11 lo_x6
  have tpaX_11 := tpaX_10.kept g11 (nb_ne nb_x0_paX)
  have ya_paX_11 := tpaX_11.1
  have yb_paX_11 := tpaX_11.2
  clear bb10 BS10 og0_10 tpaX_10 ya_paX_10 yb_paX_10 tbx0_10 ya_bx0_10 yb_bx0_10 ox0_10 g11 om11
  go_wp2_with fail
  refine (eqIntSS_refl (.slice Yy7 (restL s0 x0 a1).length cy7) (.slice Yy4 (restL s0 x0 a1).length cy4) (restL s0 x0 a1) _ og0_11.rdr (RW.out.below BS11)).mono ?_
  rintro e w12 ⟨rfl, b12⟩
  have z12 : w6.heap.size ≤ w12.heap.size := Nat.le_trans z11 b12.size
  have bb12 : Below w.heap.size w w12 := Below.then bb11 b12
  have BS12 : Below w4.heap.size w4 w12 := Below.then BS11 b12
  have og0_12 := og0_11.below b12
  have tpaX_12 := tpaX_11.below b12
  have ya_paX_12 := tpaX_12.1
  have yb_paX_12 := tpaX_12.2
  clear tpaX_11 ya_paX_11 yb_paX_11
  clear bb11 BS11 og0_11 b12
  go_wp2_with fail
  refine (markIntSS_any (.slice Yy7 (restL s0 x0 a1).length cy7) (restL s0 x0 a1) w6.heap.size (1 : Int) _ og0_12 z12 (by have := HLEN.out; omega) (by omega) (by omega)).mono ?_
  rintro e w13 ⟨rfl, om13, m13⟩
  have bb13 : Below w.heap.size w w13 := bb12.trans (m13.mono lo_g0.1)
  have BS13 : Below w4.heap.size w4 w13 := BS12.trans (m13.mono lo_g0.2.1)
  have tpaX_13 : TBox w13 w.heap.size s0 (.slice A0 x0.length c0) := ⟨(m13.cell lo_g0.2.2).trans tpaX_12.1, (m13.cell lo_g0.2.2).trans tpaX_12.2⟩
  have ya_paX_13 := tpaX_13.1
  have yb_paX_13 := tpaX_13.2
  clear bb12 BS12 tpaX_12 ya_paX_12 yb_paX_12 og0_12 m13
  go_wp2_with fail
  refine (of_same (heldIntSS_any (.slice Yy7 (restL s0 x0 a1).length cy7) (restL s0 x0 a1) (1 : Int) _ om13.rdr (by have := HLEN.out; omega) (by omega) (by omega))).mono ?_
  rintro e w14 ⟨rfl, b14⟩
  have bb14 : Below w.heap.size w w14 := Below.then bb13 b14
  have BS14 : Below w4.heap.size w4 w14 := Below.then BS13 b14
  have og0_14 := om13.below b14
  have tpaX_14 := tpaX_13.below b14
  have ya_paX_14 := tpaX_14.1
  have yb_paX_14 := tpaX_14.2
  clear tpaX_13 ya_paX_13 yb_paX_13
  clear bb13 BS13 om13 b14
  go_wp2_with fail
  refine (toLeague_any s0 (.slice A0 x0.length c0) x0 _ (R0.out.below bb14) (by omega)).mono ?_
  rintro e w15 ⟨y15, rfl, oo15, b15⟩
  obtain ⟨Y15, cy15, rfl, -, -, -⟩ := oo15.form
  have bb15 : Below w.heap.size w w15 := Below.then bb14 b15
  have BS15 : Below w4.heap.size w4 w15 := Below.then BS14 b15
  have og0_15 := og0_14.below b15
  have tpaX_15 := tpaX_14.below b15
  have ya_paX_15 := tpaX_15.1
  have yb_paX_15 := tpaX_15.2
  clear tpaX_14 ya_paX_14 yb_paX_14
  clear bb14 BS14 og0_14 b15
  go_wp2_with fail
  refine (implRest s0 (.slice Y15 x0.length cy15) x0 a1 _ oo15.rd).mono ?_
  rintro e w16 ⟨y16, rfl, oh0, b16⟩
  obtain ⟨Yy16, cy16, rfl, -, -, -⟩ := oh0.form
  have bb16 : Below w.heap.size w w16 := Below.then bb15 b16
  have BS16 : Below w4.heap.size w4 w16 := Below.then BS15 b16
  have og0_16 := og0_15.below b16
  clear bb15 BS15 og0_15 b16 oo15
  go_wp2_with fail
  refine (eqIntSS_refl (.slice Yy16 (restL s0 x0 a1).length cy16) (.slice Yy4 (restL s0 x0 a1).length cy4) (restL s0 x0 a1) _ oh0.rdr (RW.out.below BS16)).mono ?_
  rintro e w17 ⟨rfl, b17⟩
  have bb17 : Below w.heap.size w w17 := Below.then bb16 b17
  have BS17 : Below w4.heap.size w4 w17 := Below.then BS16 b17
  have og0_17 := og0_16.below b17
  clear bb16 BS16 og0_16 b17 oh0
  go_wp2_with fail
  refine (of_same (heldIntSS_any (.slice Yy7 (restL s0 x0 a1).length cy7) (restL s0 x0 a1) (1 : Int) _ og0_17.rdr (by have := HLEN.out; omega) (by omega) (by omega))).mono ?_
  rintro e w18 ⟨rfl, b18⟩
  have bb18 : Below w.heap.size w w18 := Below.then bb17 b18
  have BS18 : Below w4.heap.size w4 w18 := Below.then BS17 b18
  go_wp2_with fail
  go_ret
  exact ⟨rfl, bb18⟩
end Go.Proofs.Ytkcffjojklmbpaa
