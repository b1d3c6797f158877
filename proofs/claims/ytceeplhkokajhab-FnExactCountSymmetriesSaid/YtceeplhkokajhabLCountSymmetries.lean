/- FnExactCountSymmetries: the walk of the law. -/
import Derived.Test.YtceeplhkokajhabCSymS
import Derived.Test.YtceeplhkokajhabTourL
import Derived.Test.YtceeplhkokajhabFrame
import Derived.Deep.RegionHeld3
namespace Go.Proofs.Ytceeplhkokajhab
open Go.RowKit

set_option maxHeartbeats 2000000 in
theorem lawCountSymmetries (v0 : Value) (w : World) (h0 : TourOpen w v0) :
    Calls Try.prog 3 #[v0] w fun e w' => e = .returned (.bool true) ∧ Below w.heap.size w w' := by
  obtain ⟨s0, x0, ⟨u0, rfl, r0⟩, i0, lo0, hi0⟩ := h0
  have R0 := Lib.hid r0
  have I0 := Lib.hid i0
  obtain ⟨A0, c0, rfl, -, -, -⟩ := r0
  clear i0
  by_cases hn0 : 0 ≤ (1048576 : Int) - (x0.length : Int)
  case neg =>
    go_enter Try.func3, Try.ntmps3
    go_wp2_with fail
    have b1 := below_alloc1 w (.cells #[.int .i64 s0, (.slice A0 x0.length c0)] 24)
    have tpaT_1 := TBox.new w s0 (.slice A0 x0.length c0) 24
    have g1 : w.heap.size < (w.alloc (.cells #[.int .i64 s0, (.slice A0 x0.length c0)] 24)).heap.size := by simp
    generalize w.alloc (.cells #[.int .i64 s0, (.slice A0 x0.length c0)] 24) = w1 at *
    have ya_paT_1 := tpaT_1.1
    have yb_paT_1 := tpaT_1.2
    clear g1
    have bb1 : Below w.heap.size w w1 := b1
    clear b1
    go_wp2_with fail
    refine (szTour_any s0 (.slice A0 x0.length c0) x0 ((1048576 : Int)) _ (R0.out.below bb1) (by omega) (by omega)).mono ?_
    rintro e w2 ⟨rfl, b2⟩
    have bb2 : Below w.heap.size w w2 := Below.then bb1 b2
    have tpaT_2 := tpaT_1.below b2
    have ya_paT_2 := tpaT_2.1
    have yb_paT_2 := tpaT_2.2
    clear tpaT_1 ya_paT_1 yb_paT_1 bb1 b2
    rw [szI_no (by omega)]
    go_wp2_with fail
    go_ret
    exact ⟨rfl, bb2⟩
  go_enter Try.func3, Try.ntmps3
  go_wp2_with fail
  have b1 := below_alloc1 w (.cells #[.int .i64 s0, (.slice A0 x0.length c0)] 24)
  have tpaT_1 := TBox.new w s0 (.slice A0 x0.length c0) 24
  have g1 : w.heap.size < (w.alloc (.cells #[.int .i64 s0, (.slice A0 x0.length c0)] 24)).heap.size := by simp
  generalize w.alloc (.cells #[.int .i64 s0, (.slice A0 x0.length c0)] 24) = w1 at *
  have ya_paT_1 := tpaT_1.1
  have yb_paT_1 := tpaT_1.2
  clear g1
  have bb1 : Below w.heap.size w w1 := b1
  clear b1
  go_wp2_with fail
  refine (szTour_any s0 (.slice A0 x0.length c0) x0 ((1048576 : Int)) _ (R0.out.below bb1) (by omega) (by omega)).mono ?_
  rintro e w2 ⟨rfl, b2⟩
  have bb2 : Below w.heap.size w w2 := Below.then bb1 b2
  have tpaT_2 := tpaT_1.below b2
  have ya_paT_2 := tpaT_2.1
  have yb_paT_2 := tpaT_2.2
  clear tpaT_1 ya_paT_1 yb_paT_1 bb1 b2
  rw [szI_yes (by omega)]
  go_wp2_with fail
  refine (toTour_any s0 (.slice A0 x0.length c0) x0 _ (R0.out.below bb2) (by omega)).mono ?_
  rintro e w3 ⟨y3, rfl, oo3, b3⟩
  obtain ⟨Y3, cy3, rfl, -, -, -⟩ := oo3.form
  have nb_t1_paT := box_old_of tpaT_2 (fun k hk => (oo3.lt k hk).1)
  have ot1_3 : Own w3 w.heap.size (.slice Y3 x0.length cy3) x0 := oo3.mono bb2.size
  clear oo3
  have bb3 : Below w.heap.size w w3 := Below.then bb2 b3
  have tpaT_3 := tpaT_2.below b3
  have ya_paT_3 := tpaT_3.1
  have yb_paT_3 := tpaT_3.2
  clear tpaT_2 ya_paT_2 yb_paT_2 bb2 b3
  go_wp2_with fail
  refine (specCSym s0 (.slice Y3 x0.length cy3) x0 _ ot1_3.rd).mono ?_
  rintro e w4 ⟨rfl, b4⟩
  have bb4 : Below w.heap.size w w4 := Below.then bb3 b4
  have ot1_4 := ot1_3.below b4
  have tpaT_4 := tpaT_3.below b4
  have ya_paT_4 := tpaT_4.1
  have yb_paT_4 := tpaT_4.2
  clear ot1_3 tpaT_3 ya_paT_3 yb_paT_3 bb3 b4
  clear ot1_4
  go_wp2_with fail
  refine (toTour_any s0 (.slice A0 x0.length c0) x0 _ (R0.out.below bb4) (by omega)).mono ?_
  rintro e w5 ⟨y5, rfl, oo5, b5⟩
  obtain ⟨Y5, cy5, rfl, -, -, -⟩ := oo5.form
  have nb_x0_paT := box_old_of tpaT_4 (fun k hk => (oo5.lt k hk).1)
  have ox0_5 : Own w5 w.heap.size (.slice Y5 x0.length cy5) x0 := oo5.mono bb4.size
  clear oo5
  have bb5 : Below w.heap.size w w5 := Below.then bb4 b5
  have tpaT_5 := tpaT_4.below b5
  have ya_paT_5 := tpaT_5.1
  have yb_paT_5 := tpaT_5.2
  clear tpaT_4 ya_paT_4 yb_paT_4 bb4 b5
  have pre_paT_0 := (tpaT_5.below (below_alloc1 w5 (.cells #[.int .i64 s0, (.slice Y5 x0.length cy5)] 27))).1
  have pre_paT_1 := (tpaT_5.below (below_alloc1 w5 (.cells #[.int .i64 s0, (.slice Y5 x0.length cy5)] 27))).2
  go_wp2_with fail
  have b6 := below_alloc1 w5 (.cells #[.int .i64 s0, (.slice Y5 x0.length cy5)] 27)
  have tbx0_6 := TBox.new w5 s0 (.slice Y5 x0.length cy5) 27
  have nb_x0_bx0 := box_new_of (fun k hk => (ox0_5.lt k hk).2)
  have g6 : w5.heap.size < (w5.alloc (.cells #[.int .i64 s0, (.slice Y5 x0.length cy5)] 27)).heap.size := by simp
  generalize w5.alloc (.cells #[.int .i64 s0, (.slice Y5 x0.length cy5)] 27) = w6 at *
  have ya_bx0_6 := tbx0_6.1
  have yb_bx0_6 := tbx0_6.2
  clear g6
  have bb6 : Below w.heap.size w w6 := Below.then bb5 b6
  have ox0_6 := ox0_5.below b6
  have tpaT_6 := tpaT_5.below b6
  have ya_paT_6 := tpaT_6.1
  have yb_paT_6 := tpaT_6.2
  clear ox0_5 tpaT_5 ya_paT_5 yb_paT_5 bb5 b6
  clear pre_paT_0 pre_paT_1
  go_wp2_with fail
  refine (implCSym s0 (.slice Y5 x0.length cy5) x0 _ ox0_6.rd).mono ?_
  rintro e w7 ⟨rfl, b7⟩
  have bb7 : Below w.heap.size w w7 := Below.then bb6 b7
  have ox0_7 := ox0_6.below b7
  have tpaT_7 := tpaT_6.below b7
  have ya_paT_7 := tpaT_7.1
  have yb_paT_7 := tpaT_7.2
  have tbx0_7 := tbx0_6.below b7
  have ya_bx0_7 := tbx0_7.1
  have yb_bx0_7 := tbx0_7.2
  clear ox0_6 tpaT_6 ya_paT_6 yb_paT_6 tbx0_6 ya_bx0_6 yb_bx0_6 bb6 b7
  go_wp2_with fail
  have bd_7 : Below w.heap.size w w7.drew := bb7.drew
  have odx0_7 : Own w7.drew w.heap.size (.slice Y5 x0.length cy5) x0 := ox0_7
  have tdpaT_7 : TBox w7.drew w.heap.size s0 (.slice A0 x0.length c0) := tpaT_7
  have tdbx0_7 : TBox w7.drew w5.heap.size s0 (.slice Y5 x0.length cy5) := tbx0_7
  go_region_held3 (fun W => W.cell? ⟨w.heap.size, 0, none⟩ = some (.int .i64 s0) ∧ W.cell? ⟨w.heap.size, 1, none⟩ = some (.slice A0 x0.length c0) ∧ W.cell? ⟨w5.heap.size, 0, none⟩ = some (.int .i64 s0) ∧ W.cell? ⟨w5.heap.size, 1, none⟩ = some (.slice Y5 x0.length cy5))
    (first | exact ⟨ya_paT_7, yb_paT_7, ya_bx0_7, yb_bx0_7⟩ | exact ⟨ya_paT_8, yb_paT_8, ya_bx0_8, yb_bx0_8⟩ | exact ⟨ya_paT_9, yb_paT_9, ya_bx0_9, yb_bx0_9⟩)
    (first
      | (go_at_call 10; refine (toTour_any s0 (.slice A0 x0.length c0) x0 _ (R0.out.below bd_7) (by omega)).mono ?_; rintro e w8 ⟨y8, rfl, oo8, b8⟩; obtain ⟨Y8, cy8, rfl, -, -, -⟩ := oo8.form; have ap_x0_t2 := apart_of (fun k hk => (odx0_7.lt k hk).2) (fun k hk => (oo8.lt k hk).1); have nb_t2_paT := box_old_of tdpaT_7 (fun k hk => (oo8.lt k hk).1); have nb_t2_bx0 := box_old_of tdbx0_7 (fun k hk => (oo8.lt k hk).1); have ot2_8 : Own w8 w.heap.size (.slice Y8 x0.length cy8) x0 := oo8.mono bd_7.size; have bb8 : Below w.heap.size w w8 := Below.then bd_7 b8; have ox0_8 := odx0_7.below b8; have tpaT_8 := tdpaT_7.below b8; have ya_paT_8 := tpaT_8.1; have yb_paT_8 := tpaT_8.2; have tbx0_8 := tdbx0_7.below b8; have ya_bx0_8 := tbx0_8.1; have yb_bx0_8 := tbx0_8.2)
      | (go_at_call 12; refine (eqTour_refl s0 (.slice Y5 x0.length cy5) (.slice Y8 x0.length cy8) x0 _ ox0_8.rd ot2_8.rd).mono ?_; rintro e w9 ⟨rfl, b9⟩; have bb9 : Below w.heap.size w w9 := Below.then bb8 b9; have ox0_9 := ox0_8.below b9; have ot2_9 := ot2_8.below b9; have tpaT_9 := tpaT_8.below b9; have ya_paT_9 := tpaT_9.1; have yb_paT_9 := tpaT_9.2; have tbx0_9 := tbx0_8.below b9; have ya_bx0_9 := tbx0_9.1; have yb_bx0_9 := tbx0_9.2))
  clear bb7 ox0_7 tpaT_7 tbx0_7 oo8 odx0_7 tdpaT_7 ya_paT_7 yb_paT_7 tdbx0_7 ya_bx0_7 yb_bx0_7 bd_7 b8 ox0_8 ot2_8 tpaT_8 ya_paT_8 yb_paT_8 tbx0_8 ya_bx0_8 yb_bx0_8 bb8 b9
  clear ot2_9
  go_wp2_with fail
  go_ret
  exact ⟨rfl, bb9⟩
end Go.Proofs.Ytceeplhkokajhab
