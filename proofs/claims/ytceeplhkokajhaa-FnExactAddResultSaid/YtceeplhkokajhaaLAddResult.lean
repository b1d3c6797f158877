/- FnExactAddResult: the walk of the law. -/
import Derived.Test.YtceeplhkokajhaaAddF
import Derived.Test.YtceeplhkokajhaaLgL
import Derived.Test.YtceeplhkokajhaaFrame
import Derived.Test.YtceeplhkokajhaaMarkR
import Derived.Deep.RegionHeld3
import Derived.Deep.DeepCutAuto
namespace Go.Proofs.Ytceeplhkokajhaa
open Go.RowKit
set_option maxRecDepth 100000

set_option maxHeartbeats 2000000 in
theorem lawAddResult (v0 v1 : Value) (w : World) (h0 : LeagueOpen w v0) (h1 : ResultV v1) :
    Calls Try.prog 3 #[v0, v1] w fun e w' => e = .returned (.bool true) ∧ Below w.heap.size w w' := by
  obtain ⟨s0, x0, ⟨u0, rfl, r0⟩, i0, lo0, hi0⟩ := h0
  have R0 := Lib.hid r0
  have I0 := Lib.hid i0
  obtain ⟨A0, c0, rfl, -, -, -⟩ := r0
  clear i0
  obtain ⟨pa1, pb1, pc1, pd1, rfl, rb1⟩ := h1
  have RB1 := Lib.hid rb1
  clear rb1
  by_cases hn0 : 0 ≤ (1048576 : Int) - (x0.length : Int)
  case neg =>
    go_enter Try.func3, Try.ntmps3
    go_wp2_with fail
    have tpaX_2 : TBox ((w.alloc (.cells #[.int .i64 s0, (.slice A0 x0.length c0)] 24)).alloc (.cells #[.int .i64 pa1, .int .i64 pb1, .int .i64 pc1, .int .i64 pd1] 26)) w.heap.size s0 (.slice A0 x0.length c0) := (TBox.new w s0 (.slice A0 x0.length c0) 24).below (below_alloc1 _ _)
    have tpaR_2 : Box4 ((w.alloc (.cells #[.int .i64 s0, (.slice A0 x0.length c0)] 24)).alloc (.cells #[.int .i64 pa1, .int .i64 pb1, .int .i64 pc1, .int .i64 pd1] 26)) (w.heap.size + 1) pa1 pb1 pc1 pd1 := by (have h := Box4.new (w.alloc (.cells #[.int .i64 s0, (.slice A0 x0.length c0)] 24)) pa1 pb1 pc1 pd1 26; rwa [World.size_alloc] at h)
    have bb2 : Below w.heap.size w ((w.alloc (.cells #[.int .i64 s0, (.slice A0 x0.length c0)] 24)).alloc (.cells #[.int .i64 pa1, .int .i64 pb1, .int .i64 pc1, .int .i64 pd1] 26)) := (below_alloc1 w _).alloc (by simp) _
    generalize (w.alloc (.cells #[.int .i64 s0, (.slice A0 x0.length c0)] 24)).alloc (.cells #[.int .i64 pa1, .int .i64 pb1, .int .i64 pc1, .int .i64 pd1] 26) = w2 at *
    have ya_paX_2 := tpaX_2.1
    have yb_paX_2 := tpaX_2.2
    have ya_paR_2 := tpaR_2.1
    have yb_paR_2 := tpaR_2.2.1
    have yc_paR_2 := tpaR_2.2.2.1
    have yd_paR_2 := tpaR_2.2.2.2
    go_wp2_with fail
    refine (szLeague_any s0 (.slice A0 x0.length c0) x0 ((1048576 : Int)) _ (R0.out.below bb2) (by omega) (by omega)).mono ?_
    rintro e w3 ⟨rfl, b3⟩
    have bb3 : Below w.heap.size w w3 := Below.then bb2 b3
    have tpaX_3 := tpaX_2.below b3
    have ya_paX_3 := tpaX_3.1
    have yb_paX_3 := tpaX_3.2
    have tpaR_3 := tpaR_2.below b3
    have ya_paR_3 := tpaR_3.1
    have yb_paR_3 := tpaR_3.2.1
    have yc_paR_3 := tpaR_3.2.2.1
    have yd_paR_3 := tpaR_3.2.2.2
    clear tpaX_2 ya_paX_2 yb_paX_2 tpaR_2 ya_paR_2 yb_paR_2 yc_paR_2 yd_paR_2 bb2 b3
    rw [szI_no (by omega)]
    go_wp2_with fail
    go_ret
    exact ⟨rfl, bb3⟩
  go_enter Try.func3, Try.ntmps3
  go_wp2_with fail
  have tpaX_2 : TBox ((w.alloc (.cells #[.int .i64 s0, (.slice A0 x0.length c0)] 24)).alloc (.cells #[.int .i64 pa1, .int .i64 pb1, .int .i64 pc1, .int .i64 pd1] 26)) w.heap.size s0 (.slice A0 x0.length c0) := (TBox.new w s0 (.slice A0 x0.length c0) 24).below (below_alloc1 _ _)
  have tpaR_2 : Box4 ((w.alloc (.cells #[.int .i64 s0, (.slice A0 x0.length c0)] 24)).alloc (.cells #[.int .i64 pa1, .int .i64 pb1, .int .i64 pc1, .int .i64 pd1] 26)) (w.heap.size + 1) pa1 pb1 pc1 pd1 := by (have h := Box4.new (w.alloc (.cells #[.int .i64 s0, (.slice A0 x0.length c0)] 24)) pa1 pb1 pc1 pd1 26; rwa [World.size_alloc] at h)
  have bb2 : Below w.heap.size w ((w.alloc (.cells #[.int .i64 s0, (.slice A0 x0.length c0)] 24)).alloc (.cells #[.int .i64 pa1, .int .i64 pb1, .int .i64 pc1, .int .i64 pd1] 26)) := (below_alloc1 w _).alloc (by simp) _
  generalize (w.alloc (.cells #[.int .i64 s0, (.slice A0 x0.length c0)] 24)).alloc (.cells #[.int .i64 pa1, .int .i64 pb1, .int .i64 pc1, .int .i64 pd1] 26) = w2 at *
  have ya_paX_2 := tpaX_2.1
  have yb_paX_2 := tpaX_2.2
  have ya_paR_2 := tpaR_2.1
  have yb_paR_2 := tpaR_2.2.1
  have yc_paR_2 := tpaR_2.2.2.1
  have yd_paR_2 := tpaR_2.2.2.2
  go_wp2_with fail
  refine (szLeague_any s0 (.slice A0 x0.length c0) x0 ((1048576 : Int)) _ (R0.out.below bb2) (by omega) (by omega)).mono ?_
  rintro e w3 ⟨rfl, b3⟩
  have bb3 : Below w.heap.size w w3 := Below.then bb2 b3
  have tpaX_3 := tpaX_2.below b3
  have ya_paX_3 := tpaX_3.1
  have yb_paX_3 := tpaX_3.2
  have tpaR_3 := tpaR_2.below b3
  have ya_paR_3 := tpaR_3.1
  have yb_paR_3 := tpaR_3.2.1
  have yc_paR_3 := tpaR_3.2.2.1
  have yd_paR_3 := tpaR_3.2.2.2
  clear tpaX_2 ya_paX_2 yb_paX_2 tpaR_2 ya_paR_2 yb_paR_2 yc_paR_2 yd_paR_2 bb2 b3
  rw [szI_yes (by omega)]
  go_wp2_with fail
  have KP : Hid (∀ W, Below w3.heap.size w3 W → W.cell? ⟨w.heap.size, 0, none⟩ = some (.int .i64 s0) ∧ W.cell? ⟨w.heap.size, 1, none⟩ = some (.slice A0 x0.length c0) ∧ W.cell? ⟨(w.heap.size + 1), 0, none⟩ = some (.int .i64 pa1) ∧ W.cell? ⟨(w.heap.size + 1), 1, none⟩ = some (.int .i64 pb1) ∧ W.cell? ⟨(w.heap.size + 1), 2, none⟩ = some (.int .i64 pc1) ∧ W.cell? ⟨(w.heap.size + 1), 3, none⟩ = some (.int .i64 pd1)) := fun W hb => ⟨(tpaX_3.below hb).1, (tpaX_3.below hb).2, (tpaR_3.below hb).1, (tpaR_3.below hb).2.1, (tpaR_3.below hb).2.2.1, (tpaR_3.below hb).2.2.2⟩
  have BB0 : Below w3.heap.size w3 w3.drew := (Below.refl _ _).drew
  have BB0B : Below w3.heap.size w3 (w3.drew.alloc (.cells #[.int .i64 0, .slice none 0 0] 30)) := BB0.alloc BB0.size _
  clear ya_paX_3 yb_paX_3
  clear ya_paR_3 yb_paR_3 yc_paR_3 yd_paR_3
  go_cut [6, 7] (fun sp sq wx => LgCut w3 (adS s0 x0 (pa1, pb1, pc1, pd1)) (adRs s0 x0 (pa1, pb1, pc1, pd1)) (adOk s0 x0 (pa1, pb1, pc1, pd1)) sp sq wx)
  case first =>
    go_region_held3 (fun W => W.cell? ⟨w.heap.size, 0, none⟩ = some (.int .i64 s0) ∧ W.cell? ⟨w.heap.size, 1, none⟩ = some (.slice A0 x0.length c0) ∧ W.cell? ⟨(w.heap.size + 1), 0, none⟩ = some (.int .i64 pa1) ∧ W.cell? ⟨(w.heap.size + 1), 1, none⟩ = some (.int .i64 pb1) ∧ W.cell? ⟨(w.heap.size + 1), 2, none⟩ = some (.int .i64 pc1) ∧ W.cell? ⟨(w.heap.size + 1), 3, none⟩ = some (.int .i64 pd1))
      (first | exact KP.out _ BB0 | exact KP.out _ BB0B | exact KP.out _ BB1 | exact KP.out _ (BB1.alloc BB1.size _) | exact KP.out _ BB2 | exact KP.out _ (BB2.alloc BB2.size _) | exact KP.out _ BB3 | exact KP.out _ (BB3.alloc BB3.size _) | exact KP.out _ BBS)
      (first
        | (go_at_call 11; refine (toLeague_any s0 (.slice A0 x0.length c0) x0 w3.drew (R0.out.below (Below.then bb3 BB0)) (by omega)).mono ?_; rintro e v1 ⟨yy1, rfl, hoo, hb⟩; obtain ⟨Z1, cz1, rfl, -, -, -⟩ := hoo.form; have oo1_1 := hoo; have BB1 := Below.then BB0 hb; (try have HX1 := HX0.below hb); clear hb)
        | (go_at_call 11; refine (toLeague_any s0 (.slice A0 x0.length c0) x0 (w3.drew.alloc (.cells #[.int .i64 0, .slice none 0 0] 30)) (R0.out.below (Below.then bb3 BB0B)) (by omega)).mono ?_; rintro e v1 ⟨yy1, rfl, hoo, hb⟩; obtain ⟨Z1, cz1, rfl, -, -, -⟩ := hoo.form; have oo1_1 := hoo; have BB1 := Below.then BB0B hb; have HX1 := (show BoxO w3 (w3.drew.alloc (.cells #[.int .i64 0, .slice none 0 0] 30)) w3.heap.size from BoxO.new (w0 := w3) w3.drew BB0.size).below hb; clear hb)
        | (go_at_call 12; refine (toResult_any pa1 pb1 pc1 pd1 v1).mono ?_; rintro e v2 ⟨rfl, hb⟩; have BB2 := Below.then BB1 hb; (try have HX2 := HX1.below hb); have oo1_2 := oo1_1.below hb; clear hb)
        | (go_at_call 12; refine (toResult_any pa1 pb1 pc1 pd1 (v1.alloc (.cells #[.int .i64 0, .slice none 0 0] 30))).mono ?_; rintro e v2 ⟨rfl, hb⟩; have BB2 := Below.then (BB1.alloc BB1.size _) hb; have HX2 := (BoxO.new (w0 := w3) v1 BB1.size).below hb; have oo1_2 := (oo1_1.alloc _).below hb; clear hb)
        | (go_at_call 10; refine (specAdd s0 (.slice Z1 x0.length cz1) x0 pa1 pb1 pc1 pd1 v2 oo1_2.rd (by omega)).mono ?_; rintro e v3 ⟨yy3, rfl, hoy, hb⟩; obtain ⟨Z3, cz3, rfl, -, -, -⟩ := hoy.form; have BB3 := Below.then BB2 hb; (try have HX3 := HX2.below hb); have OY := hoy.mono BB2.size; (try have NB := own_ne (fun k hk => (hoy.lt k hk).1) HX2.1.gt); (try have BBS := (BB3.setCell (p := ⟨_, 0, none⟩) HX3.2 (.int .i64 (adS s0 x0 (pa1, pb1, pc1, pd1)))).setCell (p := ⟨_, 1, none⟩) HX3.2 (.slice Z3 (adRs s0 x0 (pa1, pb1, pc1, pd1)).length cz3)); (try have v0 := HX3.1.1.1); (try have v1 := HX3.1.1.2); (try have f0 := HX3.1.2 0); (try have f1 := HX3.1.2 1); clear hb hoy)
        | (go_at_call 10; refine (specAdd s0 (.slice Z1 x0.length cz1) x0 pa1 pb1 pc1 pd1 (v2.alloc (.cells #[.int .i64 0, .slice none 0 0] 30)) (oo1_2.alloc _).rd (by omega)).mono ?_; rintro e v3 ⟨yy3, rfl, hoy, hb⟩; obtain ⟨Z3, cz3, rfl, -, -, -⟩ := hoy.form; have BB3 := Below.then (BB2.alloc BB2.size _) hb; have HX3 := (BoxO.new (w0 := w3) v2 BB2.size).below hb; have OY := hoy.mono (BB2.alloc BB2.size _).size; have NB := own_ne (fun k hk => (hoy.lt k hk).1) (BoxO.new (w0 := w3) v2 BB2.size).1.gt; (try have BBS := (BB3.setCell (p := ⟨_, 0, none⟩) HX3.2 (.int .i64 (adS s0 x0 (pa1, pb1, pc1, pd1)))).setCell (p := ⟨_, 1, none⟩) HX3.2 (.slice Z3 (adRs s0 x0 (pa1, pb1, pc1, pd1)).length cz3)); (try have v0 := HX3.1.1.1); (try have v1 := HX3.1.1.2); (try have f0 := HX3.1.2 0); (try have f1 := HX3.1.2 1); clear hb hoy))
    all_goals first
      | (go_wp2_with fail; go_meet; exact ⟨_, _, _, rfl, rfl, (HX3.1.set01 (adS s0 x0 (pa1, pb1, pc1, pd1)) _).1, (OY.kept (setCell_grown _ _ _) NB).kept (setCell_grown _ _ _) NB, NB, HX3.2, BBS⟩)
      | (go_wp2_with fail; go_meet; exact ⟨_, _, _, rfl, rfl, TBox.new v3 (adS s0 x0 (pa1, pb1, pc1, pd1)) _ _, OY.alloc _, box_new_of (fun k hk => (OY.lt k hk).2), BB3.size, BB3.alloc BB3.size _⟩)
  obtain ⟨gB4, Y4, cy4, rfl, rfl, tb4, ob4, nb4, hg4, b4⟩ := hcut
  obtain ⟨w4, hwc⟩ : ∃ x, x = wc := ⟨_, rfl⟩
  subst hwc
  clear KP BB0 BB0B
  have nb_w0_paX := box_old_of tpaX_3 (fun k hk => (ob4.lt k hk).1)
  have nb_w0_paR := box4_old_of tpaR_3 (fun k hk => (ob4.lt k hk).1)
  have ow0_4 : OwnR w4 w.heap.size (.slice Y4 (adRs s0 x0 (pa1, pb1, pc1, pd1)).length cy4) (adRs s0 x0 (pa1, pb1, pc1, pd1)) := ob4.mono bb3.size
  have bb4 : Below w.heap.size w w4 := Below.then bb3 b4
  have tpaX_4 := tpaX_3.below b4
  have ya_paX_4 := tpaX_4.1
  have yb_paX_4 := tpaX_4.2
  have tpaR_4 := tpaR_3.below b4
  have ya_paR_4 := tpaR_4.1
  have yb_paR_4 := tpaR_4.2.1
  have yc_paR_4 := tpaR_4.2.2.1
  have yd_paR_4 := tpaR_4.2.2.2
  clear tpaX_3 tpaR_3 bb3 b4
  have ya_bw0_4 := tb4.1
  have yb_bw0_4 := tb4.2
  clear ob4
  go_wp2_with fail
  refine (toLeague_any s0 (.slice A0 x0.length c0) x0 _ (R0.out.below bb4) (by omega)).mono ?_
  rintro e w5 ⟨y5, rfl, oo5, b5⟩
  obtain ⟨Y5, cy5, rfl, -, -, -⟩ := oo5.form
  have ap_w0_x0 := apart_of (fun k hk => (ow0_4.lt k hk).2) (fun k hk => (oo5.lt k hk).1)
  have nb_x0_paX := box_old_of tpaX_4 (fun k hk => (oo5.lt k hk).1)
  have nb_x0_paR := box4_old_of tpaR_4 (fun k hk => (oo5.lt k hk).1)
  have nb_x0_bw0 := box_old_of tb4 (fun k hk => (oo5.lt k hk).1)
  have ox0_5 : OwnR w5 w.heap.size (.slice Y5 x0.length cy5) x0 := oo5.mono bb4.size
  clear oo5
  have bb5 : Below w.heap.size w w5 := Below.then bb4 b5
  have ow0_5 := ow0_4.below b5
  have tpaX_5 := tpaX_4.below b5
  have ya_paX_5 := tpaX_5.1
  have yb_paX_5 := tpaX_5.2
  have tpaR_5 := tpaR_4.below b5
  have ya_paR_5 := tpaR_5.1
  have yb_paR_5 := tpaR_5.2.1
  have yc_paR_5 := tpaR_5.2.2.1
  have yd_paR_5 := tpaR_5.2.2.2
  have tbw0_5 := tb4.below b5
  have ya_bw0_5 := tbw0_5.1
  have yb_bw0_5 := tbw0_5.2
  clear ow0_4 tpaX_4 ya_paX_4 yb_paX_4 tpaR_4 ya_paR_4 yb_paR_4 yc_paR_4 yd_paR_4 tb4 ya_bw0_4 yb_bw0_4 bb4 b5
  have pre_paX_0 := (tpaX_5.below (below_alloc1 w5 (.cells #[.int .i64 s0, (.slice Y5 x0.length cy5)] 30))).1
  have pre_paX_1 := (tpaX_5.below (below_alloc1 w5 (.cells #[.int .i64 s0, (.slice Y5 x0.length cy5)] 30))).2
  have pre_paR_0 := (tpaR_5.below (below_alloc1 w5 (.cells #[.int .i64 s0, (.slice Y5 x0.length cy5)] 30))).1
  have pre_paR_1 := (tpaR_5.below (below_alloc1 w5 (.cells #[.int .i64 s0, (.slice Y5 x0.length cy5)] 30))).2.1
  have pre_paR_2 := (tpaR_5.below (below_alloc1 w5 (.cells #[.int .i64 s0, (.slice Y5 x0.length cy5)] 30))).2.2.1
  have pre_paR_3 := (tpaR_5.below (below_alloc1 w5 (.cells #[.int .i64 s0, (.slice Y5 x0.length cy5)] 30))).2.2.2
  have pre_bw0_0 := (tbw0_5.below (below_alloc1 w5 (.cells #[.int .i64 s0, (.slice Y5 x0.length cy5)] 30))).1
  have pre_bw0_1 := (tbw0_5.below (below_alloc1 w5 (.cells #[.int .i64 s0, (.slice Y5 x0.length cy5)] 30))).2
  go_wp2_with fail
  have b6 := below_alloc1 w5 (.cells #[.int .i64 s0, (.slice Y5 x0.length cy5)] 30)
  have tbx0_6 := TBox.new w5 s0 (.slice Y5 x0.length cy5) 30
  have nb_w0_bx0 := box_new_of (fun k hk => (ow0_5.lt k hk).2)
  have nb_x0_bx0 := box_new_of (fun k hk => (ox0_5.lt k hk).2)
  have g6 : w5.heap.size < (w5.alloc (.cells #[.int .i64 s0, (.slice Y5 x0.length cy5)] 30)).heap.size := by simp
  generalize w5.alloc (.cells #[.int .i64 s0, (.slice Y5 x0.length cy5)] 30) = w6 at *
  have ya_bx0_6 := tbx0_6.1
  have yb_bx0_6 := tbx0_6.2
  clear g6
  have bb6 : Below w.heap.size w w6 := Below.then bb5 b6
  have ow0_6 := ow0_5.below b6
  have ox0_6 := ox0_5.below b6
  have tpaX_6 := tpaX_5.below b6
  have ya_paX_6 := tpaX_6.1
  have yb_paX_6 := tpaX_6.2
  have tpaR_6 := tpaR_5.below b6
  have ya_paR_6 := tpaR_6.1
  have yb_paR_6 := tpaR_6.2.1
  have yc_paR_6 := tpaR_6.2.2.1
  have yd_paR_6 := tpaR_6.2.2.2
  have tbw0_6 := tbw0_5.below b6
  have ya_bw0_6 := tbw0_6.1
  have yb_bw0_6 := tbw0_6.2
  clear ow0_5 ox0_5 tpaX_5 ya_paX_5 yb_paX_5 tpaR_5 ya_paR_5 yb_paR_5 yc_paR_5 yd_paR_5 tbw0_5 ya_bw0_5 yb_bw0_5 bb5 b6
  clear pre_paX_0 pre_paX_1 pre_paR_0 pre_paR_1 pre_paR_2 pre_paR_3 pre_bw0_0 pre_bw0_1
  go_wp2_with fail
  have KP : Hid (∀ W, Below w6.heap.size w6 W → W.cell? ⟨w.heap.size, 0, none⟩ = some (.int .i64 s0) ∧ W.cell? ⟨w.heap.size, 1, none⟩ = some (.slice A0 x0.length c0) ∧ W.cell? ⟨(w.heap.size + 1), 0, none⟩ = some (.int .i64 pa1) ∧ W.cell? ⟨(w.heap.size + 1), 1, none⟩ = some (.int .i64 pb1) ∧ W.cell? ⟨(w.heap.size + 1), 2, none⟩ = some (.int .i64 pc1) ∧ W.cell? ⟨(w.heap.size + 1), 3, none⟩ = some (.int .i64 pd1) ∧ W.cell? ⟨gB4, 0, none⟩ = some (.int .i64 (adS s0 x0 (pa1, pb1, pc1, pd1))) ∧ W.cell? ⟨gB4, 1, none⟩ = some (.slice Y4 (adRs s0 x0 (pa1, pb1, pc1, pd1)).length cy4) ∧ W.cell? ⟨w5.heap.size, 0, none⟩ = some (.int .i64 s0) ∧ W.cell? ⟨w5.heap.size, 1, none⟩ = some (.slice Y5 x0.length cy5)) := fun W hb => ⟨(tpaX_6.below hb).1, (tpaX_6.below hb).2, (tpaR_6.below hb).1, (tpaR_6.below hb).2.1, (tpaR_6.below hb).2.2.1, (tpaR_6.below hb).2.2.2, (tbw0_6.below hb).1, (tbw0_6.below hb).2, (tbx0_6.below hb).1, (tbx0_6.below hb).2⟩
  have BB0 : Below w6.heap.size w6 w6.drew := (Below.refl _ _).drew
  have BB0B : Below w6.heap.size w6 (w6.drew.alloc (.cells #[.int .i64 0, .slice none 0 0] 30)) := BB0.alloc BB0.size _
  clear ya_paX_6 yb_paX_6
  clear ya_paR_6 yb_paR_6 yc_paR_6 yd_paR_6
  clear ya_bw0_6 yb_bw0_6
  clear ya_bx0_6 yb_bx0_6
  go_cut [9, 10] (fun sp sq wx => LgCut w6 (adS s0 x0 (pa1, pb1, pc1, pd1)) (adRs s0 x0 (pa1, pb1, pc1, pd1)) (adOk s0 x0 (pa1, pb1, pc1, pd1)) sp sq wx)
  case first =>
    go_region_held3 (fun W => W.cell? ⟨w.heap.size, 0, none⟩ = some (.int .i64 s0) ∧ W.cell? ⟨w.heap.size, 1, none⟩ = some (.slice A0 x0.length c0) ∧ W.cell? ⟨(w.heap.size + 1), 0, none⟩ = some (.int .i64 pa1) ∧ W.cell? ⟨(w.heap.size + 1), 1, none⟩ = some (.int .i64 pb1) ∧ W.cell? ⟨(w.heap.size + 1), 2, none⟩ = some (.int .i64 pc1) ∧ W.cell? ⟨(w.heap.size + 1), 3, none⟩ = some (.int .i64 pd1) ∧ W.cell? ⟨gB4, 0, none⟩ = some (.int .i64 (adS s0 x0 (pa1, pb1, pc1, pd1))) ∧ W.cell? ⟨gB4, 1, none⟩ = some (.slice Y4 (adRs s0 x0 (pa1, pb1, pc1, pd1)).length cy4) ∧ W.cell? ⟨w5.heap.size, 0, none⟩ = some (.int .i64 s0) ∧ W.cell? ⟨w5.heap.size, 1, none⟩ = some (.slice Y5 x0.length cy5))
      (first | exact KP.out _ BB0 | exact KP.out _ BB0B | exact KP.out _ BB1 | exact KP.out _ (BB1.alloc BB1.size _) | exact KP.out _ BB2 | exact KP.out _ (BB2.alloc BB2.size _) | exact KP.out _ BBS)
      (first
        | (go_at_call 12; refine (toResult_any pa1 pb1 pc1 pd1 w6.drew).mono ?_; rintro e v1 ⟨rfl, hb⟩; have BB1 := Below.then BB0 hb; (try have HX1 := HX0.below hb); clear hb)
        | (go_at_call 12; refine (toResult_any pa1 pb1 pc1 pd1 (w6.drew.alloc (.cells #[.int .i64 0, .slice none 0 0] 30))).mono ?_; rintro e v1 ⟨rfl, hb⟩; have BB1 := Below.then BB0B hb; have HX1 := (show BoxO w6 (w6.drew.alloc (.cells #[.int .i64 0, .slice none 0 0] 30)) w6.heap.size from BoxO.new (w0 := w6) w6.drew BB0.size).below hb; clear hb)
        | (go_at_call 13; refine (implAdd2 s0 (.slice Y5 x0.length cy5) x0 pa1 pb1 pc1 pd1 v1 (ox0_6.below BB1).rd (by omega)).mono ?_; rintro e v2 ⟨yy2, rfl, hoy, hb⟩; obtain ⟨Z2, cz2, rfl, -, -, -⟩ := hoy.form; have BB2 := Below.then BB1 hb; (try have HX2 := HX1.below hb); have OY := hoy.mono BB1.size; (try have NB := own_ne (fun k hk => (hoy.lt k hk).1) HX1.1.gt); (try have BBS := (BB2.setCell (p := ⟨_, 0, none⟩) HX2.2 (.int .i64 (adS s0 x0 (pa1, pb1, pc1, pd1)))).setCell (p := ⟨_, 1, none⟩) HX2.2 (.slice Z2 (adRs s0 x0 (pa1, pb1, pc1, pd1)).length cz2)); (try have v0 := HX2.1.1.1); (try have v1 := HX2.1.1.2); (try have f0 := HX2.1.2 0); (try have f1 := HX2.1.2 1); clear hb hoy)
        | (go_at_call 13; refine (implAdd2 s0 (.slice Y5 x0.length cy5) x0 pa1 pb1 pc1 pd1 (v1.alloc (.cells #[.int .i64 0, .slice none 0 0] 30)) (ox0_6.below (BB1.alloc BB1.size _)).rd (by omega)).mono ?_; rintro e v2 ⟨yy2, rfl, hoy, hb⟩; obtain ⟨Z2, cz2, rfl, -, -, -⟩ := hoy.form; have BB2 := Below.then (BB1.alloc BB1.size _) hb; have HX2 := (BoxO.new (w0 := w6) v1 BB1.size).below hb; have OY := hoy.mono (BB1.alloc BB1.size _).size; have NB := own_ne (fun k hk => (hoy.lt k hk).1) (BoxO.new (w0 := w6) v1 BB1.size).1.gt; (try have BBS := (BB2.setCell (p := ⟨_, 0, none⟩) HX2.2 (.int .i64 (adS s0 x0 (pa1, pb1, pc1, pd1)))).setCell (p := ⟨_, 1, none⟩) HX2.2 (.slice Z2 (adRs s0 x0 (pa1, pb1, pc1, pd1)).length cz2)); (try have v0 := HX2.1.1.1); (try have v1 := HX2.1.1.2); (try have f0 := HX2.1.2 0); (try have f1 := HX2.1.2 1); clear hb hoy))
    all_goals first
      | (go_wp2_with fail; go_meet; exact ⟨_, _, _, rfl, rfl, (HX2.1.set01 (adS s0 x0 (pa1, pb1, pc1, pd1)) _).1, (OY.kept (setCell_grown _ _ _) NB).kept (setCell_grown _ _ _) NB, NB, HX2.2, BBS⟩)
      | (go_wp2_with fail; go_meet; exact ⟨_, _, _, rfl, rfl, TBox.new v2 (adS s0 x0 (pa1, pb1, pc1, pd1)) _ _, OY.alloc _, box_new_of (fun k hk => (OY.lt k hk).2), BB2.size, BB2.alloc BB2.size _⟩)
  obtain ⟨gB7, Y7, cy7, rfl, rfl, tb7, ob7, nb7, hg7, b7⟩ := hcut
  obtain ⟨w7, hwc⟩ : ∃ x, x = wc := ⟨_, rfl⟩
  subst hwc
  clear KP BB0 BB0B
  have nb_g0_paX := box_old_of tpaX_6 (fun k hk => (ob7.lt k hk).1)
  have nb_g0_paR := box4_old_of tpaR_6 (fun k hk => (ob7.lt k hk).1)
  have nb_g0_bw0 := box_old_of tbw0_6 (fun k hk => (ob7.lt k hk).1)
  have nb_g0_bx0 := box_old_of tbx0_6 (fun k hk => (ob7.lt k hk).1)
  have ap_w0_g0 := apart_of (fun k hk => (ow0_6.lt k hk).2) (fun k hk => (ob7.lt k hk).1)
  have nb_w0_bg0 := own_below_box (fun k hk => (ow0_6.lt k hk).2) hg7
  have ap_x0_g0 := apart_of (fun k hk => (ox0_6.lt k hk).2) (fun k hk => (ob7.lt k hk).1)
  have nb_x0_bg0 := own_below_box (fun k hk => (ox0_6.lt k hk).2) hg7
  have og0_7 : OwnR w7 w.heap.size (.slice Y7 (adRs s0 x0 (pa1, pb1, pc1, pd1)).length cy7) (adRs s0 x0 (pa1, pb1, pc1, pd1)) := ob7.mono bb6.size
  have bb7 : Below w.heap.size w w7 := Below.then bb6 b7
  have ow0_7 := ow0_6.below b7
  have ox0_7 := ox0_6.below b7
  have tpaX_7 := tpaX_6.below b7
  have ya_paX_7 := tpaX_7.1
  have yb_paX_7 := tpaX_7.2
  have tpaR_7 := tpaR_6.below b7
  have ya_paR_7 := tpaR_7.1
  have yb_paR_7 := tpaR_7.2.1
  have yc_paR_7 := tpaR_7.2.2.1
  have yd_paR_7 := tpaR_7.2.2.2
  have tbw0_7 := tbw0_6.below b7
  have ya_bw0_7 := tbw0_7.1
  have yb_bw0_7 := tbw0_7.2
  have tbx0_7 := tbx0_6.below b7
  have ya_bx0_7 := tbx0_7.1
  have yb_bx0_7 := tbx0_7.2
  clear ow0_6 ox0_6 tpaX_6 tpaR_6 tbw0_6 tbx0_6 bb6 b7
  have ya_bg0_7 := tb7.1
  have yb_bg0_7 := tb7.2
  clear ob7
  go_wp2_with fail
  refine (eqLeague_refl (adS s0 x0 (pa1, pb1, pc1, pd1)) (.slice Y7 (adRs s0 x0 (pa1, pb1, pc1, pd1)).length cy7) (.slice Y4 (adRs s0 x0 (pa1, pb1, pc1, pd1)).length cy4) (adRs s0 x0 (pa1, pb1, pc1, pd1)) _ og0_7.rd ow0_7.rd).mono ?_
  rintro e w8 ⟨rfl, b8⟩
  have bb8 : Below w.heap.size w w8 := Below.then bb7 b8
  have ow0_8 := ow0_7.below b8
  have ox0_8 := ox0_7.below b8
  have og0_8 := og0_7.below b8
  have tpaX_8 := tpaX_7.below b8
  have ya_paX_8 := tpaX_8.1
  have yb_paX_8 := tpaX_8.2
  have tpaR_8 := tpaR_7.below b8
  have ya_paR_8 := tpaR_8.1
  have yb_paR_8 := tpaR_8.2.1
  have yc_paR_8 := tpaR_8.2.2.1
  have yd_paR_8 := tpaR_8.2.2.2
  have tbw0_8 := tbw0_7.below b8
  have ya_bw0_8 := tbw0_8.1
  have yb_bw0_8 := tbw0_8.2
  have tbx0_8 := tbx0_7.below b8
  have ya_bx0_8 := tbx0_8.1
  have yb_bx0_8 := tbx0_8.2
  have tbg0_8 := tb7.below b8
  have ya_bg0_8 := tbg0_8.1
  have yb_bg0_8 := tbg0_8.2
  clear ow0_7 ox0_7 og0_7 tpaX_7 ya_paX_7 yb_paX_7 tpaR_7 ya_paR_7 yb_paR_7 yc_paR_7 yd_paR_7 tbw0_7 ya_bw0_7 yb_bw0_7 tbx0_7 ya_bx0_7 yb_bx0_7 tb7 ya_bg0_7 yb_bg0_7 bb7 b8
  go_wp2_with fail
  have bd_8 : Below w.heap.size w w8.drew := bb8.drew
  have odw0_8 : OwnR w8.drew w.heap.size (.slice Y4 (adRs s0 x0 (pa1, pb1, pc1, pd1)).length cy4) (adRs s0 x0 (pa1, pb1, pc1, pd1)) := ow0_8
  have odx0_8 : OwnR w8.drew w.heap.size (.slice Y5 x0.length cy5) x0 := ox0_8
  have odg0_8 : OwnR w8.drew w.heap.size (.slice Y7 (adRs s0 x0 (pa1, pb1, pc1, pd1)).length cy7) (adRs s0 x0 (pa1, pb1, pc1, pd1)) := og0_8
  have tdpaX_8 : TBox w8.drew w.heap.size s0 (.slice A0 x0.length c0) := tpaX_8
  have tdpaR_8 : Box4 w8.drew (w.heap.size + 1) pa1 pb1 pc1 pd1 := tpaR_8
  have tdbw0_8 : TBox w8.drew gB4 (adS s0 x0 (pa1, pb1, pc1, pd1)) (.slice Y4 (adRs s0 x0 (pa1, pb1, pc1, pd1)).length cy4) := tbw0_8
  have tdbx0_8 : TBox w8.drew w5.heap.size s0 (.slice Y5 x0.length cy5) := tbx0_8
  have tdbg0_8 : TBox w8.drew gB7 (adS s0 x0 (pa1, pb1, pc1, pd1)) (.slice Y7 (adRs s0 x0 (pa1, pb1, pc1, pd1)).length cy7) := tbg0_8
  go_region_held3 (fun W => W.cell? ⟨w.heap.size, 0, none⟩ = some (.int .i64 s0) ∧ W.cell? ⟨w.heap.size, 1, none⟩ = some (.slice A0 x0.length c0) ∧ W.cell? ⟨(w.heap.size + 1), 0, none⟩ = some (.int .i64 pa1) ∧ W.cell? ⟨(w.heap.size + 1), 1, none⟩ = some (.int .i64 pb1) ∧ W.cell? ⟨(w.heap.size + 1), 2, none⟩ = some (.int .i64 pc1) ∧ W.cell? ⟨(w.heap.size + 1), 3, none⟩ = some (.int .i64 pd1) ∧ W.cell? ⟨gB4, 0, none⟩ = some (.int .i64 (adS s0 x0 (pa1, pb1, pc1, pd1))) ∧ W.cell? ⟨gB4, 1, none⟩ = some (.slice Y4 (adRs s0 x0 (pa1, pb1, pc1, pd1)).length cy4) ∧ W.cell? ⟨w5.heap.size, 0, none⟩ = some (.int .i64 s0) ∧ W.cell? ⟨w5.heap.size, 1, none⟩ = some (.slice Y5 x0.length cy5) ∧ W.cell? ⟨gB7, 0, none⟩ = some (.int .i64 (adS s0 x0 (pa1, pb1, pc1, pd1))) ∧ W.cell? ⟨gB7, 1, none⟩ = some (.slice Y7 (adRs s0 x0 (pa1, pb1, pc1, pd1)).length cy7))
    (first | exact ⟨ya_paX_8, yb_paX_8, ya_paR_8, yb_paR_8, yc_paR_8, yd_paR_8, ya_bw0_8, yb_bw0_8, ya_bx0_8, yb_bx0_8, ya_bg0_8, yb_bg0_8⟩ | exact ⟨ya_paX_9, yb_paX_9, ya_paR_9, yb_paR_9, yc_paR_9, yd_paR_9, ya_bw0_9, yb_bw0_9, ya_bx0_9, yb_bx0_9, ya_bg0_9, yb_bg0_9⟩ | exact ⟨ya_paX_10, yb_paX_10, ya_paR_10, yb_paR_10, yc_paR_10, yd_paR_10, ya_bw0_10, yb_bw0_10, ya_bx0_10, yb_bx0_10, ya_bg0_10, yb_bg0_10⟩)
    (first
      | (go_at_call 11; refine (toLeague_any s0 (.slice A0 x0.length c0) x0 _ (R0.out.below bd_8) (by omega)).mono ?_; rintro e w9 ⟨y9, rfl, oo9, b9⟩; obtain ⟨Y9, cy9, rfl, -, -, -⟩ := oo9.form; have ap_w0_t2 := apart_of (fun k hk => (odw0_8.lt k hk).2) (fun k hk => (oo9.lt k hk).1); have ap_x0_t2 := apart_of (fun k hk => (odx0_8.lt k hk).2) (fun k hk => (oo9.lt k hk).1); have ap_g0_t2 := apart_of (fun k hk => (odg0_8.lt k hk).2) (fun k hk => (oo9.lt k hk).1); have nb_t2_paX := box_old_of tdpaX_8 (fun k hk => (oo9.lt k hk).1); have nb_t2_paR := box4_old_of tdpaR_8 (fun k hk => (oo9.lt k hk).1); have nb_t2_bw0 := box_old_of tdbw0_8 (fun k hk => (oo9.lt k hk).1); have nb_t2_bx0 := box_old_of tdbx0_8 (fun k hk => (oo9.lt k hk).1); have nb_t2_bg0 := box_old_of tdbg0_8 (fun k hk => (oo9.lt k hk).1); have ot2_9 : OwnR w9 w.heap.size (.slice Y9 x0.length cy9) x0 := oo9.mono bd_8.size; have bb9 : Below w.heap.size w w9 := Below.then bd_8 b9; have ow0_9 := odw0_8.below b9; have ox0_9 := odx0_8.below b9; have og0_9 := odg0_8.below b9; have tpaX_9 := tdpaX_8.below b9; have ya_paX_9 := tpaX_9.1; have yb_paX_9 := tpaX_9.2; have tpaR_9 := tdpaR_8.below b9; have ya_paR_9 := tpaR_9.1; have yb_paR_9 := tpaR_9.2.1; have yc_paR_9 := tpaR_9.2.2.1; have yd_paR_9 := tpaR_9.2.2.2; have tbw0_9 := tdbw0_8.below b9; have ya_bw0_9 := tbw0_9.1; have yb_bw0_9 := tbw0_9.2; have tbx0_9 := tdbx0_8.below b9; have ya_bx0_9 := tbx0_9.1; have yb_bx0_9 := tbx0_9.2; have tbg0_9 := tdbg0_8.below b9; have ya_bg0_9 := tbg0_9.1; have yb_bg0_9 := tbg0_9.2)
      | (go_at_call 14; refine (eqLeague_refl s0 (.slice Y5 x0.length cy5) (.slice Y9 x0.length cy9) x0 _ ox0_9.rd ot2_9.rd).mono ?_; rintro e w10 ⟨rfl, b10⟩; have bb10 : Below w.heap.size w w10 := Below.then bb9 b10; have ow0_10 := ow0_9.below b10; have ox0_10 := ox0_9.below b10; have og0_10 := og0_9.below b10; have ot2_10 := ot2_9.below b10; have tpaX_10 := tpaX_9.below b10; have ya_paX_10 := tpaX_10.1; have yb_paX_10 := tpaX_10.2; have tpaR_10 := tpaR_9.below b10; have ya_paR_10 := tpaR_10.1; have yb_paR_10 := tpaR_10.2.1; have yc_paR_10 := tpaR_10.2.2.1; have yd_paR_10 := tpaR_10.2.2.2; have tbw0_10 := tbw0_9.below b10; have ya_bw0_10 := tbw0_10.1; have yb_bw0_10 := tbw0_10.2; have tbx0_10 := tbx0_9.below b10; have ya_bx0_10 := tbx0_10.1; have yb_bx0_10 := tbx0_10.2; have tbg0_10 := tbg0_9.below b10; have ya_bg0_10 := tbg0_10.1; have yb_bg0_10 := tbg0_10.2))
  clear bb8 ow0_8 ox0_8 og0_8 tpaX_8 tpaR_8 tbw0_8 tbx0_8 tbg0_8 oo9 odw0_8 odx0_8 odg0_8 tdpaX_8 ya_paX_8 yb_paX_8 tdpaR_8 ya_paR_8 yb_paR_8 yc_paR_8 yd_paR_8 tdbw0_8 ya_bw0_8 yb_bw0_8 tdbx0_8 ya_bx0_8 yb_bx0_8 tdbg0_8 ya_bg0_8 yb_bg0_8 bd_8 b9 ow0_9 ox0_9 og0_9 ot2_9 tpaX_9 ya_paX_9 yb_paX_9 tpaR_9 ya_paR_9 yb_paR_9 yc_paR_9 yd_paR_9 tbw0_9 ya_bw0_9 yb_bw0_9 tbx0_9 ya_bx0_9 yb_bx0_9 tbg0_9 ya_bg0_9 yb_bg0_9 bb9 b10
  clear ot2_10
  go_wp2_with fail
  refine (markLeague_any s0 (.slice Y5 x0.length cy5) x0 w.heap.size (1 : Int) _ ox0_10 (by omega) (by omega) (by omega)).mono ?_
  rintro e w11 ⟨rfl, om11, g11⟩
  have bb11 : Below w.heap.size w w11 := Below.grown bb10 g11 bb10.size (fun k hk => (ox0_10.lt k hk).1)
  have ow0_11 := ow0_10.kept g11 ap_w0_x0
  have og0_11 := og0_10.kept g11 (apart_symm ap_x0_g0)
  have tpaX_11 := tpaX_10.kept g11 (nb_ne nb_x0_paX)
  have ya_paX_11 := tpaX_11.1
  have yb_paX_11 := tpaX_11.2
  have tpaR_11 := tpaR_10.kept g11 (nb_ne nb_x0_paR)
  have ya_paR_11 := tpaR_11.1
  have yb_paR_11 := tpaR_11.2.1
  have yc_paR_11 := tpaR_11.2.2.1
  have yd_paR_11 := tpaR_11.2.2.2
  have tbw0_11 := tbw0_10.kept g11 (nb_ne nb_x0_bw0)
  have ya_bw0_11 := tbw0_11.1
  have yb_bw0_11 := tbw0_11.2
  have tbx0_11 := tbx0_10.kept g11 (nb_ne nb_x0_bx0)
  have ya_bx0_11 := tbx0_11.1
  have yb_bx0_11 := tbx0_11.2
  have tbg0_11 := tbg0_10.kept g11 (nb_ne nb_x0_bg0)
  have ya_bg0_11 := tbg0_11.1
  have yb_bg0_11 := tbg0_11.2
  clear bb10 ow0_10 og0_10 tpaX_10 ya_paX_10 yb_paX_10 tpaR_10 ya_paR_10 yb_paR_10 yc_paR_10 yd_paR_10 tbw0_10 ya_bw0_10 yb_bw0_10 tbx0_10 ya_bx0_10 yb_bx0_10 tbg0_10 ya_bg0_10 yb_bg0_10 ox0_10 g11
  go_wp2_with fail
  refine (eqLeague_refl (adS s0 x0 (pa1, pb1, pc1, pd1)) (.slice Y7 (adRs s0 x0 (pa1, pb1, pc1, pd1)).length cy7) (.slice Y4 (adRs s0 x0 (pa1, pb1, pc1, pd1)).length cy4) (adRs s0 x0 (pa1, pb1, pc1, pd1)) _ og0_11.rd ow0_11.rd).mono ?_
  rintro e w12 ⟨rfl, b12⟩
  have bb12 : Below w.heap.size w w12 := Below.then bb11 b12
  have ow0_12 := ow0_11.below b12
  have ox0_12 := om11.below b12
  have og0_12 := og0_11.below b12
  have tpaX_12 := tpaX_11.below b12
  have ya_paX_12 := tpaX_12.1
  have yb_paX_12 := tpaX_12.2
  have tpaR_12 := tpaR_11.below b12
  have ya_paR_12 := tpaR_12.1
  have yb_paR_12 := tpaR_12.2.1
  have yc_paR_12 := tpaR_12.2.2.1
  have yd_paR_12 := tpaR_12.2.2.2
  have tbw0_12 := tbw0_11.below b12
  have ya_bw0_12 := tbw0_12.1
  have yb_bw0_12 := tbw0_12.2
  have tbx0_12 := tbx0_11.below b12
  have ya_bx0_12 := tbx0_12.1
  have yb_bx0_12 := tbx0_12.2
  have tbg0_12 := tbg0_11.below b12
  have ya_bg0_12 := tbg0_12.1
  have yb_bg0_12 := tbg0_12.2
  clear ow0_11 om11 og0_11 tpaX_11 ya_paX_11 yb_paX_11 tpaR_11 ya_paR_11 yb_paR_11 yc_paR_11 yd_paR_11 tbw0_11 ya_bw0_11 yb_bw0_11 tbx0_11 ya_bx0_11 yb_bx0_11 tbg0_11 ya_bg0_11 yb_bg0_11 bb11 b12
  go_wp2_with fail
  refine (markLeague_any (adS s0 x0 (pa1, pb1, pc1, pd1)) (.slice Y7 (adRs s0 x0 (pa1, pb1, pc1, pd1)).length cy7) (adRs s0 x0 (pa1, pb1, pc1, pd1)) w.heap.size (1 : Int) _ og0_12 (by have := adRs_len s0 x0 (pa1, pb1, pc1, pd1); omega) (by omega) (by omega)).mono ?_
  rintro e w13 ⟨rfl, om13, g13⟩
  have bb13 : Below w.heap.size w w13 := Below.grown bb12 g13 bb12.size (fun k hk => (og0_12.lt k hk).1)
  have ow0_13 := ow0_12.kept g13 ap_w0_g0
  have ox0_13 := ox0_12.kept g13 ap_x0_g0
  have tpaX_13 := tpaX_12.kept g13 (nb_ne nb_g0_paX)
  have ya_paX_13 := tpaX_13.1
  have yb_paX_13 := tpaX_13.2
  have tpaR_13 := tpaR_12.kept g13 (nb_ne nb_g0_paR)
  have ya_paR_13 := tpaR_13.1
  have yb_paR_13 := tpaR_13.2.1
  have yc_paR_13 := tpaR_13.2.2.1
  have yd_paR_13 := tpaR_13.2.2.2
  have tbw0_13 := tbw0_12.kept g13 (nb_ne nb_g0_bw0)
  have ya_bw0_13 := tbw0_13.1
  have yb_bw0_13 := tbw0_13.2
  have tbx0_13 := tbx0_12.kept g13 (nb_ne nb_g0_bx0)
  have ya_bx0_13 := tbx0_13.1
  have yb_bx0_13 := tbx0_13.2
  have tbg0_13 := tbg0_12.kept g13 (nb_ne nb7)
  have ya_bg0_13 := tbg0_13.1
  have yb_bg0_13 := tbg0_13.2
  clear bb12 ow0_12 ox0_12 tpaX_12 ya_paX_12 yb_paX_12 tpaR_12 ya_paR_12 yb_paR_12 yc_paR_12 yd_paR_12 tbw0_12 ya_bw0_12 yb_bw0_12 tbx0_12 ya_bx0_12 yb_bx0_12 tbg0_12 ya_bg0_12 yb_bg0_12 og0_12 g13
  go_wp2_with fail
  refine (heldMarksLeague_any (adS s0 x0 (pa1, pb1, pc1, pd1)) (.slice Y7 (adRs s0 x0 (pa1, pb1, pc1, pd1)).length cy7) (adRs s0 x0 (pa1, pb1, pc1, pd1)).length (1 : Int) _ om13.rd (by have := adRs_len s0 x0 (pa1, pb1, pc1, pd1); omega) (by omega) (by omega)).mono ?_
  rintro e w14 ⟨rfl, b14⟩
  have bb14 : Below w.heap.size w w14 := Below.then bb13 b14
  have ow0_14 := ow0_13.below b14
  have ox0_14 := ox0_13.below b14
  have og0_14 := om13.below b14
  have tpaX_14 := tpaX_13.below b14
  have ya_paX_14 := tpaX_14.1
  have yb_paX_14 := tpaX_14.2
  have tpaR_14 := tpaR_13.below b14
  have ya_paR_14 := tpaR_14.1
  have yb_paR_14 := tpaR_14.2.1
  have yc_paR_14 := tpaR_14.2.2.1
  have yd_paR_14 := tpaR_14.2.2.2
  have tbw0_14 := tbw0_13.below b14
  have ya_bw0_14 := tbw0_14.1
  have yb_bw0_14 := tbw0_14.2
  have tbx0_14 := tbx0_13.below b14
  have ya_bx0_14 := tbx0_14.1
  have yb_bx0_14 := tbx0_14.2
  have tbg0_14 := tbg0_13.below b14
  have ya_bg0_14 := tbg0_14.1
  have yb_bg0_14 := tbg0_14.2
  clear ow0_13 ox0_13 om13 tpaX_13 ya_paX_13 yb_paX_13 tpaR_13 ya_paR_13 yb_paR_13 yc_paR_13 yd_paR_13 tbw0_13 ya_bw0_13 yb_bw0_13 tbx0_13 ya_bx0_13 yb_bx0_13 tbg0_13 ya_bg0_13 yb_bg0_13 bb13 b14
  go_wp2_with fail
  have KP : Hid (∀ W, Below w14.heap.size w14 W → W.cell? ⟨w.heap.size, 0, none⟩ = some (.int .i64 s0) ∧ W.cell? ⟨w.heap.size, 1, none⟩ = some (.slice A0 x0.length c0) ∧ W.cell? ⟨(w.heap.size + 1), 0, none⟩ = some (.int .i64 pa1) ∧ W.cell? ⟨(w.heap.size + 1), 1, none⟩ = some (.int .i64 pb1) ∧ W.cell? ⟨(w.heap.size + 1), 2, none⟩ = some (.int .i64 pc1) ∧ W.cell? ⟨(w.heap.size + 1), 3, none⟩ = some (.int .i64 pd1) ∧ W.cell? ⟨gB4, 0, none⟩ = some (.int .i64 (adS s0 x0 (pa1, pb1, pc1, pd1))) ∧ W.cell? ⟨gB4, 1, none⟩ = some (.slice Y4 (adRs s0 x0 (pa1, pb1, pc1, pd1)).length cy4) ∧ W.cell? ⟨w5.heap.size, 0, none⟩ = some (.int .i64 s0) ∧ W.cell? ⟨w5.heap.size, 1, none⟩ = some (.slice Y5 x0.length cy5) ∧ W.cell? ⟨gB7, 0, none⟩ = some (.int .i64 (adS s0 x0 (pa1, pb1, pc1, pd1))) ∧ W.cell? ⟨gB7, 1, none⟩ = some (.slice Y7 (adRs s0 x0 (pa1, pb1, pc1, pd1)).length cy7)) := fun W hb => ⟨(tpaX_14.below hb).1, (tpaX_14.below hb).2, (tpaR_14.below hb).1, (tpaR_14.below hb).2.1, (tpaR_14.below hb).2.2.1, (tpaR_14.below hb).2.2.2, (tbw0_14.below hb).1, (tbw0_14.below hb).2, (tbx0_14.below hb).1, (tbx0_14.below hb).2, (tbg0_14.below hb).1, (tbg0_14.below hb).2⟩
  have BB0 : Below w14.heap.size w14 w14.drew := (Below.refl _ _).drew
  have BB0B : Below w14.heap.size w14 (w14.drew.alloc (.cells #[.int .i64 0, .slice none 0 0] 30)) := BB0.alloc BB0.size _
  clear ya_paX_14 yb_paX_14
  clear ya_paR_14 yb_paR_14 yc_paR_14 yd_paR_14
  clear ya_bw0_14 yb_bw0_14
  clear ya_bx0_14 yb_bx0_14
  clear ya_bg0_14 yb_bg0_14
  go_cut [14, 15] (fun sp sq wx => LgCut w14 (adS s0 x0 (pa1, pb1, pc1, pd1)) (adRs s0 x0 (pa1, pb1, pc1, pd1)) (adOk s0 x0 (pa1, pb1, pc1, pd1)) sp sq wx)
  case first =>
    go_region_held3 (fun W => W.cell? ⟨w.heap.size, 0, none⟩ = some (.int .i64 s0) ∧ W.cell? ⟨w.heap.size, 1, none⟩ = some (.slice A0 x0.length c0) ∧ W.cell? ⟨(w.heap.size + 1), 0, none⟩ = some (.int .i64 pa1) ∧ W.cell? ⟨(w.heap.size + 1), 1, none⟩ = some (.int .i64 pb1) ∧ W.cell? ⟨(w.heap.size + 1), 2, none⟩ = some (.int .i64 pc1) ∧ W.cell? ⟨(w.heap.size + 1), 3, none⟩ = some (.int .i64 pd1) ∧ W.cell? ⟨gB4, 0, none⟩ = some (.int .i64 (adS s0 x0 (pa1, pb1, pc1, pd1))) ∧ W.cell? ⟨gB4, 1, none⟩ = some (.slice Y4 (adRs s0 x0 (pa1, pb1, pc1, pd1)).length cy4) ∧ W.cell? ⟨w5.heap.size, 0, none⟩ = some (.int .i64 s0) ∧ W.cell? ⟨w5.heap.size, 1, none⟩ = some (.slice Y5 x0.length cy5) ∧ W.cell? ⟨gB7, 0, none⟩ = some (.int .i64 (adS s0 x0 (pa1, pb1, pc1, pd1))) ∧ W.cell? ⟨gB7, 1, none⟩ = some (.slice Y7 (adRs s0 x0 (pa1, pb1, pc1, pd1)).length cy7))
      (first | exact KP.out _ BB0 | exact KP.out _ BB0B | exact KP.out _ BB1 | exact KP.out _ (BB1.alloc BB1.size _) | exact KP.out _ BB2 | exact KP.out _ (BB2.alloc BB2.size _) | exact KP.out _ BB3 | exact KP.out _ (BB3.alloc BB3.size _) | exact KP.out _ BBS)
      (first
        | (go_at_call 11; refine (toLeague_any s0 (.slice A0 x0.length c0) x0 w14.drew (R0.out.below (Below.then bb14 BB0)) (by omega)).mono ?_; rintro e v1 ⟨yy1, rfl, hoo, hb⟩; obtain ⟨Z1, cz1, rfl, -, -, -⟩ := hoo.form; have oo1_1 := hoo; have BB1 := Below.then BB0 hb; (try have HX1 := HX0.below hb); clear hb)
        | (go_at_call 11; refine (toLeague_any s0 (.slice A0 x0.length c0) x0 (w14.drew.alloc (.cells #[.int .i64 0, .slice none 0 0] 30)) (R0.out.below (Below.then bb14 BB0B)) (by omega)).mono ?_; rintro e v1 ⟨yy1, rfl, hoo, hb⟩; obtain ⟨Z1, cz1, rfl, -, -, -⟩ := hoo.form; have oo1_1 := hoo; have BB1 := Below.then BB0B hb; have HX1 := (show BoxO w14 (w14.drew.alloc (.cells #[.int .i64 0, .slice none 0 0] 30)) w14.heap.size from BoxO.new (w0 := w14) w14.drew BB0.size).below hb; clear hb)
        | (go_at_call 12; refine (toResult_any pa1 pb1 pc1 pd1 v1).mono ?_; rintro e v2 ⟨rfl, hb⟩; have BB2 := Below.then BB1 hb; (try have HX2 := HX1.below hb); have oo1_2 := oo1_1.below hb; clear hb)
        | (go_at_call 12; refine (toResult_any pa1 pb1 pc1 pd1 (v1.alloc (.cells #[.int .i64 0, .slice none 0 0] 30))).mono ?_; rintro e v2 ⟨rfl, hb⟩; have BB2 := Below.then (BB1.alloc BB1.size _) hb; have HX2 := (BoxO.new (w0 := w14) v1 BB1.size).below hb; have oo1_2 := (oo1_1.alloc _).below hb; clear hb)
        | (go_at_call 13; refine (implAdd2 s0 (.slice Z1 x0.length cz1) x0 pa1 pb1 pc1 pd1 v2 oo1_2.rd (by omega)).mono ?_; rintro e v3 ⟨yy3, rfl, hoy, hb⟩; obtain ⟨Z3, cz3, rfl, -, -, -⟩ := hoy.form; have BB3 := Below.then BB2 hb; (try have HX3 := HX2.below hb); have OY := hoy.mono BB2.size; (try have NB := own_ne (fun k hk => (hoy.lt k hk).1) HX2.1.gt); (try have BBS := (BB3.setCell (p := ⟨_, 0, none⟩) HX3.2 (.int .i64 (adS s0 x0 (pa1, pb1, pc1, pd1)))).setCell (p := ⟨_, 1, none⟩) HX3.2 (.slice Z3 (adRs s0 x0 (pa1, pb1, pc1, pd1)).length cz3)); (try have v0 := HX3.1.1.1); (try have v1 := HX3.1.1.2); (try have f0 := HX3.1.2 0); (try have f1 := HX3.1.2 1); clear hb hoy)
        | (go_at_call 13; refine (implAdd2 s0 (.slice Z1 x0.length cz1) x0 pa1 pb1 pc1 pd1 (v2.alloc (.cells #[.int .i64 0, .slice none 0 0] 30)) (oo1_2.alloc _).rd (by omega)).mono ?_; rintro e v3 ⟨yy3, rfl, hoy, hb⟩; obtain ⟨Z3, cz3, rfl, -, -, -⟩ := hoy.form; have BB3 := Below.then (BB2.alloc BB2.size _) hb; have HX3 := (BoxO.new (w0 := w14) v2 BB2.size).below hb; have OY := hoy.mono (BB2.alloc BB2.size _).size; have NB := own_ne (fun k hk => (hoy.lt k hk).1) (BoxO.new (w0 := w14) v2 BB2.size).1.gt; (try have BBS := (BB3.setCell (p := ⟨_, 0, none⟩) HX3.2 (.int .i64 (adS s0 x0 (pa1, pb1, pc1, pd1)))).setCell (p := ⟨_, 1, none⟩) HX3.2 (.slice Z3 (adRs s0 x0 (pa1, pb1, pc1, pd1)).length cz3)); (try have v0 := HX3.1.1.1); (try have v1 := HX3.1.1.2); (try have f0 := HX3.1.2 0); (try have f1 := HX3.1.2 1); clear hb hoy))
    all_goals first
      | (go_wp2_with fail; go_meet; exact ⟨_, _, _, rfl, rfl, (HX3.1.set01 (adS s0 x0 (pa1, pb1, pc1, pd1)) _).1, (OY.kept (setCell_grown _ _ _) NB).kept (setCell_grown _ _ _) NB, NB, HX3.2, BBS⟩)
      | (go_wp2_with fail; go_meet; exact ⟨_, _, _, rfl, rfl, TBox.new v3 (adS s0 x0 (pa1, pb1, pc1, pd1)) _ _, OY.alloc _, box_new_of (fun k hk => (OY.lt k hk).2), BB3.size, BB3.alloc BB3.size _⟩)
  obtain ⟨gB15, Y15, cy15, rfl, rfl, tb15, ob15, nb15, hg15, b15⟩ := hcut
  obtain ⟨w15, hwc⟩ : ∃ x, x = wc := ⟨_, rfl⟩
  subst hwc
  clear KP BB0 BB0B
  have nb_h0_paX := box_old_of tpaX_14 (fun k hk => (ob15.lt k hk).1)
  have nb_h0_paR := box4_old_of tpaR_14 (fun k hk => (ob15.lt k hk).1)
  have nb_h0_bw0 := box_old_of tbw0_14 (fun k hk => (ob15.lt k hk).1)
  have nb_h0_bx0 := box_old_of tbx0_14 (fun k hk => (ob15.lt k hk).1)
  have nb_h0_bg0 := box_old_of tbg0_14 (fun k hk => (ob15.lt k hk).1)
  have ap_w0_h0 := apart_of (fun k hk => (ow0_14.lt k hk).2) (fun k hk => (ob15.lt k hk).1)
  have nb_w0_bh0 := own_below_box (fun k hk => (ow0_14.lt k hk).2) hg15
  have ap_x0_h0 := apart_of (fun k hk => (ox0_14.lt k hk).2) (fun k hk => (ob15.lt k hk).1)
  have nb_x0_bh0 := own_below_box (fun k hk => (ox0_14.lt k hk).2) hg15
  have ap_g0_h0 := apart_of (fun k hk => (og0_14.lt k hk).2) (fun k hk => (ob15.lt k hk).1)
  have nb_g0_bh0 := own_below_box (fun k hk => (og0_14.lt k hk).2) hg15
  have oh0_15 : OwnR w15 w.heap.size (.slice Y15 (adRs s0 x0 (pa1, pb1, pc1, pd1)).length cy15) (adRs s0 x0 (pa1, pb1, pc1, pd1)) := ob15.mono bb14.size
  have bb15 : Below w.heap.size w w15 := Below.then bb14 b15
  have ow0_15 := ow0_14.below b15
  have ox0_15 := ox0_14.below b15
  have og0_15 := og0_14.below b15
  have tpaX_15 := tpaX_14.below b15
  have ya_paX_15 := tpaX_15.1
  have yb_paX_15 := tpaX_15.2
  have tpaR_15 := tpaR_14.below b15
  have ya_paR_15 := tpaR_15.1
  have yb_paR_15 := tpaR_15.2.1
  have yc_paR_15 := tpaR_15.2.2.1
  have yd_paR_15 := tpaR_15.2.2.2
  have tbw0_15 := tbw0_14.below b15
  have ya_bw0_15 := tbw0_15.1
  have yb_bw0_15 := tbw0_15.2
  have tbx0_15 := tbx0_14.below b15
  have ya_bx0_15 := tbx0_15.1
  have yb_bx0_15 := tbx0_15.2
  have tbg0_15 := tbg0_14.below b15
  have ya_bg0_15 := tbg0_15.1
  have yb_bg0_15 := tbg0_15.2
  clear ow0_14 ox0_14 og0_14 tpaX_14 tpaR_14 tbw0_14 tbx0_14 tbg0_14 bb14 b15
  have ya_bh0_15 := tb15.1
  have yb_bh0_15 := tb15.2
  clear ob15
  go_wp2_with fail
  refine (eqLeague_refl (adS s0 x0 (pa1, pb1, pc1, pd1)) (.slice Y15 (adRs s0 x0 (pa1, pb1, pc1, pd1)).length cy15) (.slice Y4 (adRs s0 x0 (pa1, pb1, pc1, pd1)).length cy4) (adRs s0 x0 (pa1, pb1, pc1, pd1)) _ oh0_15.rd ow0_15.rd).mono ?_
  rintro e w16 ⟨rfl, b16⟩
  have bb16 : Below w.heap.size w w16 := Below.then bb15 b16
  have ow0_16 := ow0_15.below b16
  have ox0_16 := ox0_15.below b16
  have og0_16 := og0_15.below b16
  have oh0_16 := oh0_15.below b16
  have tpaX_16 := tpaX_15.below b16
  have ya_paX_16 := tpaX_16.1
  have yb_paX_16 := tpaX_16.2
  have tpaR_16 := tpaR_15.below b16
  have ya_paR_16 := tpaR_16.1
  have yb_paR_16 := tpaR_16.2.1
  have yc_paR_16 := tpaR_16.2.2.1
  have yd_paR_16 := tpaR_16.2.2.2
  have tbw0_16 := tbw0_15.below b16
  have ya_bw0_16 := tbw0_16.1
  have yb_bw0_16 := tbw0_16.2
  have tbx0_16 := tbx0_15.below b16
  have ya_bx0_16 := tbx0_16.1
  have yb_bx0_16 := tbx0_16.2
  have tbg0_16 := tbg0_15.below b16
  have ya_bg0_16 := tbg0_16.1
  have yb_bg0_16 := tbg0_16.2
  have tbh0_16 := tb15.below b16
  have ya_bh0_16 := tbh0_16.1
  have yb_bh0_16 := tbh0_16.2
  clear ow0_15 ox0_15 og0_15 oh0_15 tpaX_15 ya_paX_15 yb_paX_15 tpaR_15 ya_paR_15 yb_paR_15 yc_paR_15 yd_paR_15 tbw0_15 ya_bw0_15 yb_bw0_15 tbx0_15 ya_bx0_15 yb_bx0_15 tbg0_15 ya_bg0_15 yb_bg0_15 tb15 ya_bh0_15 yb_bh0_15 bb15 b16
  go_wp2_with fail
  refine (heldMarksLeague_any (adS s0 x0 (pa1, pb1, pc1, pd1)) (.slice Y7 (adRs s0 x0 (pa1, pb1, pc1, pd1)).length cy7) (adRs s0 x0 (pa1, pb1, pc1, pd1)).length (1 : Int) _ og0_16.rd (by have := adRs_len s0 x0 (pa1, pb1, pc1, pd1); omega) (by omega) (by omega)).mono ?_
  rintro e w17 ⟨rfl, b17⟩
  have bb17 : Below w.heap.size w w17 := Below.then bb16 b17
  have ow0_17 := ow0_16.below b17
  have ox0_17 := ox0_16.below b17
  have og0_17 := og0_16.below b17
  have oh0_17 := oh0_16.below b17
  have tpaX_17 := tpaX_16.below b17
  have ya_paX_17 := tpaX_17.1
  have yb_paX_17 := tpaX_17.2
  have tpaR_17 := tpaR_16.below b17
  have ya_paR_17 := tpaR_17.1
  have yb_paR_17 := tpaR_17.2.1
  have yc_paR_17 := tpaR_17.2.2.1
  have yd_paR_17 := tpaR_17.2.2.2
  have tbw0_17 := tbw0_16.below b17
  have ya_bw0_17 := tbw0_17.1
  have yb_bw0_17 := tbw0_17.2
  have tbx0_17 := tbx0_16.below b17
  have ya_bx0_17 := tbx0_17.1
  have yb_bx0_17 := tbx0_17.2
  have tbg0_17 := tbg0_16.below b17
  have ya_bg0_17 := tbg0_17.1
  have yb_bg0_17 := tbg0_17.2
  have tbh0_17 := tbh0_16.below b17
  have ya_bh0_17 := tbh0_17.1
  have yb_bh0_17 := tbh0_17.2
  clear ow0_16 ox0_16 og0_16 oh0_16 tpaX_16 ya_paX_16 yb_paX_16 tpaR_16 ya_paR_16 yb_paR_16 yc_paR_16 yd_paR_16 tbw0_16 ya_bw0_16 yb_bw0_16 tbx0_16 ya_bx0_16 yb_bx0_16 tbg0_16 ya_bg0_16 yb_bg0_16 tbh0_16 ya_bh0_16 yb_bh0_16 bb16 b17
  go_wp2_with fail
  go_ret
  exact ⟨rfl, bb17⟩
end Go.Proofs.Ytceeplhkokajhaa
