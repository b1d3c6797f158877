/- FnExactUnbeatenIn: the walk of the law. -/
import Derived.Test.YtoohpflomlhakabUnb
import Derived.Test.YtoohpflomlhakabLgL
import Derived.Test.YtoohpflomlhakabFrame
import Derived.Deep.RegionHeld3
namespace Go.Proofs.Ytoohpflomlhakab
open Go.RowKit

set_option maxHeartbeats 2000000 in
theorem lawUnbeatenIn (v0 : Value) (w : World) (h0 : LeagueOpen w v0) :
    Calls Try.prog 8 #[v0] w fun e w' => e = .returned (.bool true) ∧ Below w.heap.size w w' := by
  obtain ⟨s0, x0, ⟨u0, rfl, r0⟩, i0, lo0, hi0⟩ := h0
  have R0 := Lib.hid r0
  have I0 := Lib.hid i0
  obtain ⟨A0, c0, rfl, -, -, -⟩ := r0
  clear i0
  by_cases hn0 : 0 ≤ (1048576 : Int) - (x0.length : Int)
  case neg =>
    go_enter Try.func8, Try.ntmps8
    go_wp2_with fail
    have b1 := below_alloc1 w (.cells #[.int .i64 s0, (.slice A0 x0.length c0)] 24)
    have tpaX_1 := TBox.new w s0 (.slice A0 x0.length c0) 24
    have g1 : w.heap.size < (w.alloc (.cells #[.int .i64 s0, (.slice A0 x0.length c0)] 24)).heap.size := by simp
    generalize w.alloc (.cells #[.int .i64 s0, (.slice A0 x0.length c0)] 24) = w1 at *
    have ya_paX_1 := tpaX_1.1
    have yb_paX_1 := tpaX_1.2
    clear g1
    have bb1 : Below w.heap.size w w1 := b1
    clear b1
    go_wp2_with fail
    refine (szLeague_any s0 (.slice A0 x0.length c0) x0 ((1048576 : Int)) _ (R0.out.below bb1) (by omega) (by omega)).mono ?_
    rintro e w2 ⟨rfl, b2⟩
    have bb2 : Below w.heap.size w w2 := Below.then bb1 b2
    have tpaX_2 := tpaX_1.below b2
    have ya_paX_2 := tpaX_2.1
    have yb_paX_2 := tpaX_2.2
    clear tpaX_1 ya_paX_1 yb_paX_1 bb1 b2
    rw [szI_no (by omega)]
    go_wp2_with fail
    go_ret
    exact ⟨rfl, bb2⟩
  go_enter Try.func8, Try.ntmps8
  go_wp2_with fail
  have b1 := below_alloc1 w (.cells #[.int .i64 s0, (.slice A0 x0.length c0)] 24)
  have tpaX_1 := TBox.new w s0 (.slice A0 x0.length c0) 24
  have g1 : w.heap.size < (w.alloc (.cells #[.int .i64 s0, (.slice A0 x0.length c0)] 24)).heap.size := by simp
  generalize w.alloc (.cells #[.int .i64 s0, (.slice A0 x0.length c0)] 24) = w1 at *
  have ya_paX_1 := tpaX_1.1
  have yb_paX_1 := tpaX_1.2
  clear g1
  have bb1 : Below w.heap.size w w1 := b1
  clear b1
  go_wp2_with fail
  refine (szLeague_any s0 (.slice A0 x0.length c0) x0 ((1048576 : Int)) _ (R0.out.below bb1) (by omega) (by omega)).mono ?_
  rintro e w2 ⟨rfl, b2⟩
  have bb2 : Below w.heap.size w w2 := Below.then bb1 b2
  have tpaX_2 := tpaX_1.below b2
  have ya_paX_2 := tpaX_2.1
  have yb_paX_2 := tpaX_2.2
  clear tpaX_1 ya_paX_1 yb_paX_1 bb1 b2
  rw [szI_yes (by omega)]
  go_wp2_with fail
  refine (toLeague_any s0 (.slice A0 x0.length c0) x0 _ (R0.out.below bb2) (by omega)).mono ?_
  rintro e w3 ⟨y3, rfl, oo3, b3⟩
  obtain ⟨Y3, cy3, rfl, -, -, -⟩ := oo3.form
  have nb_t1_paX := box_old_of tpaX_2 (fun k hk => (oo3.lt k hk).1)
  have ot1_3 : OwnR w3 w.heap.size (.slice Y3 x0.length cy3) x0 := oo3.mono bb2.size
  clear oo3
  have bb3 : Below w.heap.size w w3 := Below.then bb2 b3
  have tpaX_3 := tpaX_2.below b3
  have ya_paX_3 := tpaX_3.1
  have yb_paX_3 := tpaX_3.2
  clear tpaX_2 ya_paX_2 yb_paX_2 bb2 b3
  go_wp2_with fail
  refine (specUnb s0 (.slice Y3 x0.length cy3) x0 _ ot1_3.rd).mono ?_
  rintro e w4 ⟨rfl, b4⟩
  have bb4 : Below w.heap.size w w4 := Below.then bb3 b4
  have ot1_4 := ot1_3.below b4
  have tpaX_4 := tpaX_3.below b4
  have ya_paX_4 := tpaX_4.1
  have yb_paX_4 := tpaX_4.2
  clear ot1_3 tpaX_3 ya_paX_3 yb_paX_3 bb3 b4
  clear ot1_4
  go_wp2_with fail
  refine (toLeague_any s0 (.slice A0 x0.length c0) x0 _ (R0.out.below bb4) (by omega)).mono ?_
  rintro e w5 ⟨y5, rfl, oo5, b5⟩
  obtain ⟨Y5, cy5, rfl, -, -, -⟩ := oo5.form
  have nb_x0_paX := box_old_of tpaX_4 (fun k hk => (oo5.lt k hk).1)
  have ox0_5 : OwnR w5 w.heap.size (.slice Y5 x0.length cy5) x0 := oo5.mono bb4.size
  clear oo5
  have bb5 : Below w.heap.size w w5 := Below.then bb4 b5
  have tpaX_5 := tpaX_4.below b5
  have ya_paX_5 := tpaX_5.1
  have yb_paX_5 := tpaX_5.2
  clear tpaX_4 ya_paX_4 yb_paX_4 bb4 b5
  go_wp2_with fail
  have b6 := below_alloc1 w5 (.cells #[.int .i64 s0, (.slice Y5 x0.length cy5)] 29)
  have tbx0_6 := TBox.new w5 s0 (.slice Y5 x0.length cy5) 29
  have nb_x0_bx0 := box_new_of (fun k hk => (ox0_5.lt k hk).2)
  have g6 : w5.heap.size < (w5.alloc (.cells #[.int .i64 s0, (.slice Y5 x0.length cy5)] 29)).heap.size := by simp
  generalize w5.alloc (.cells #[.int .i64 s0, (.slice Y5 x0.length cy5)] 29) = w6 at *
  have ya_bx0_6 := tbx0_6.1
  have yb_bx0_6 := tbx0_6.2
  clear g6
  have bb6 : Below w.heap.size w w6 := Below.then bb5 b6
  have ox0_6 := ox0_5.below b6
  have tpaX_6 := tpaX_5.below b6
  have ya_paX_6 := tpaX_6.1
  have yb_paX_6 := tpaX_6.2
  clear ox0_5 tpaX_5 ya_paX_5 yb_paX_5 bb5 b6
  go_wp2_with fail
  refine (implUnb s0 (.slice Y5 x0.length cy5) x0 _ ox0_6.rd).mono ?_
  rintro e w7 ⟨rfl, b7⟩
  have bb7 : Below w.heap.size w w7 := Below.then bb6 b7
  have ox0_7 := ox0_6.below b7
  have tpaX_7 := tpaX_6.below b7
  have ya_paX_7 := tpaX_7.1
  have yb_paX_7 := tpaX_7.2
  have tbx0_7 := tbx0_6.below b7
  have ya_bx0_7 := tbx0_7.1
  have yb_bx0_7 := tbx0_7.2
  clear ox0_6 tpaX_6 ya_paX_6 yb_paX_6 tbx0_6 ya_bx0_6 yb_bx0_6 bb6 b7
  go_wp2_with fail
  have bd_7 : Below w.heap.size w w7.drew := bb7.drew
  have odx0_7 : OwnR w7.drew w.heap.size (.slice Y5 x0.length cy5) x0 := ox0_7
  have tdpaX_7 : TBox w7.drew w.heap.size s0 (.slice A0 x0.length c0) := tpaX_7
  have tdbx0_7 : TBox w7.drew w5.heap.size s0 (.slice Y5 x0.length cy5) := tbx0_7
  go_region_held3 (fun W => W.cell? ⟨w.heap.size, 0, none⟩ = some (.int .i64 s0) ∧ W.cell? ⟨w.heap.size, 1, none⟩ = some (.slice A0 x0.length c0) ∧ W.cell? ⟨w5.heap.size, 0, none⟩ = some (.int .i64 s0) ∧ W.cell? ⟨w5.heap.size, 1, none⟩ = some (.slice Y5 x0.length cy5))
    (first | exact ⟨ya_paX_7, yb_paX_7, ya_bx0_7, yb_bx0_7⟩ | exact ⟨ya_paX_8, yb_paX_8, ya_bx0_8, yb_bx0_8⟩ | exact ⟨ya_paX_9, yb_paX_9, ya_bx0_9, yb_bx0_9⟩)
    (first
      | (go_at_call 15; refine (toLeague_any s0 (.slice A0 x0.length c0) x0 _ (R0.out.below bd_7) (by omega)).mono ?_; rintro e w8 ⟨y8, rfl, oo8, b8⟩; obtain ⟨Y8, cy8, rfl, -, -, -⟩ := oo8.form; have ap_x0_t2 := apart_of (fun k hk => (odx0_7.lt k hk).2) (fun k hk => (oo8.lt k hk).1); have nb_t2_paX := box_old_of tdpaX_7 (fun k hk => (oo8.lt k hk).1); have nb_t2_bx0 := box_old_of tdbx0_7 (fun k hk => (oo8.lt k hk).1); have ot2_8 : OwnR w8 w.heap.size (.slice Y8 x0.length cy8) x0 := oo8.mono bd_7.size; have bb8 : Below w.heap.size w w8 := Below.then bd_7 b8; have ox0_8 := odx0_7.below b8; have tpaX_8 := tdpaX_7.below b8; have ya_paX_8 := tpaX_8.1; have yb_paX_8 := tpaX_8.2; have tbx0_8 := tdbx0_7.below b8; have ya_bx0_8 := tbx0_8.1; have yb_bx0_8 := tbx0_8.2)
      | (go_at_call 17; refine (eqLeague_refl s0 (.slice Y5 x0.length cy5) (.slice Y8 x0.length cy8) x0 _ ox0_8.rd ot2_8.rd).mono ?_; rintro e w9 ⟨rfl, b9⟩; have bb9 : Below w.heap.size w w9 := Below.then bb8 b9; have ox0_9 := ox0_8.below b9; have ot2_9 := ot2_8.below b9; have tpaX_9 := tpaX_8.below b9; have ya_paX_9 := tpaX_9.1; have yb_paX_9 := tpaX_9.2; have tbx0_9 := tbx0_8.below b9; have ya_bx0_9 := tbx0_9.1; have yb_bx0_9 := tbx0_9.2))
  clear bb7 ox0_7 tpaX_7 tbx0_7 oo8 odx0_7 tdpaX_7 ya_paX_7 yb_paX_7 tdbx0_7 ya_bx0_7 yb_bx0_7 bd_7 b8 ox0_8 ot2_8 tpaX_8 ya_paX_8 yb_paX_8 tbx0_8 ya_bx0_8 yb_bx0_8 bb8 b9
  clear ot2_9
  go_wp2_with fail
  go_ret
  exact ⟨rfl, bb9⟩
end Go.Proofs.Ytoohpflomlhakab
