/- FnExactTableOf: the functions. -/
import Derived.Test.YtdmneccfbfdloaaTab
namespace Go.Proofs.Ytdmneccfbfdloaa
open Go.RowKit Go.Sort
set_option maxRecDepth 100000
theorem tabL_len (s : Int) (rs : List R4) : (tabL s rs).length ≤ 8 := by
  unfold tabL
  split
  · rename_i h
    have := (leagueB_true.1 h).1
    have e := sortR_len (fun a b => decide (tabC rs s.toNat a b < 0)) (idxL s.toNat) (Nat.le_refl _)
    rw [List.take_length, idxL_len] at e
    rw [e]; omega
  · simp
set_option maxHeartbeats 2000000 in
theorem implTable (s : Int) (sl : Value) (rs : List R4) (w : World) (h : RdR w sl rs) :
    Calls Try.prog 22 #[.agg #[.int .i64 s, sl]] w fun e w' => ∃ v', e = .returned v' ∧ Own w' w.heap.size v' (tabL s rs) ∧ Below w.heap.size w w' := by
  have HR := Lib.hid h
  obtain ⟨A, c, rfl, -, -, -⟩ := h
  rcases q0 : leagueB s rs with _ | _
  case false =>
    go_enter Try.func22, Try.ntmps22
    go_wp2_with fail
    have b0 := below_alloc1 w (.cells #[.int .i64 s, .slice A rs.length c] 36)
    have x0 := TBox.new w s (.slice A rs.length c) 36
    generalize w.alloc (.cells #[.int .i64 s, .slice A rs.length c] 36) = w0 at *
    have HX0 := Lib.hid x0
    have HB0 := Lib.hid b0
    clear x0 b0
    have y0_0 := HX0.out.1
    have y1_0 := HX0.out.2
    go_wp2_with fail
    refine (implLeagueOk s _ rs _ (HR.out.below HB0.out)).mono ?_
    rintro e w1 ⟨rfl, hb⟩
    have HX1 := Lib.hid (HX0.out.below hb)
    have HB1 := Lib.hid (Below.then HB0.out hb)
    clear hb HX0 HB0 y0_0 y1_0
    have y0_1 := HX1.out.1
    have y1_1 := HX1.out.2
    rw [q0]
    go_wp2
    go_ret
    exact ⟨_, rfl, by simp only [tabL, q0]; exact Own.nil_ _ _, HB1.out⟩
  go_enter Try.func22, Try.ntmps22
  go_wp2_with fail
  have b0 := below_alloc1 w (.cells #[.int .i64 s, .slice A rs.length c] 36)
  have x0 := TBox.new w s (.slice A rs.length c) 36
  generalize w.alloc (.cells #[.int .i64 s, .slice A rs.length c] 36) = w0 at *
  have HX0 := Lib.hid x0
  have HB0 := Lib.hid b0
  clear x0 b0
  have y0_0 := HX0.out.1
  have y1_0 := HX0.out.2
  go_wp2_with fail
  refine (implLeagueOk s _ rs _ (HR.out.below HB0.out)).mono ?_
  rintro e w1 ⟨rfl, hb⟩
  have HX1 := Lib.hid (HX0.out.below hb)
  have HB1 := Lib.hid (Below.then HB0.out hb)
  clear hb HX0 HB0 y0_0 y1_0
  have y0_1 := HX1.out.1
  have y1_1 := HX1.out.2
  rw [q0]
  have hs := (leagueB_true.1 q0).1
  obtain ⟨n, rfl⟩ := Int.eq_ofNat_of_zero_le (show 0 ≤ s by omega)
  have hF : Hid (tabL (n : Int) rs = sortR (fun a b => decide (tabC rs n a b < 0)) (idxL n)) := by unfold Hid tabL; rw [if_pos q0]; rfl
  have hE : Enters 46 := fun args W => by kernel_rfl
  go_wp2_with fail
  refine (points_any n _ rs _ (HR.out.below HB1.out) q0).mono ?_
  rintro e w2 ⟨v, rfl, ho, hb⟩
  rw [show ((n : Int)).toNat = n from rfl] at ho
  obtain ⟨gp, cp, rfl, hgp, hcp, hncp, hpc, -⟩ := ho.at_ (ptsLK_len rs n) (by omega)
  have bT := below_alloc1 w2 (.cells #[.slice (some ⟨gp, 0, none⟩) n cp] 22)
  have hX3 := (HX1.out.below hb).below bT
  have y0' := hX3.1
  have HX3 := Lib.hid hX3
  have HB3 := Lib.hid (Below.then (Below.then HB1.out hb) bT)
  have HC3 : Hid ((w2.alloc (.cells #[.slice (some ⟨gp, 0, none⟩) n cp] 22)).cell? ⟨w2.heap.size, 0, none⟩ = some (.slice (some ⟨gp, 0, none⟩) n cp)) := by unfold Hid; simp
  have HP3 : Hid (∀ k, k < n → (w2.alloc (.cells #[.slice (some ⟨gp, 0, none⟩) n cp] 22)).cell? ⟨gp, k, none⟩ = some (.int .i64 ((ptsLK rs n).getD k 0))) := fun k hk => (bT.cell (p := ⟨gp, k, none⟩) (ho.lt gp rfl).2).trans (hpc k hk)
  clear hb ho hpc bT hX3 y0_1 y1_1
  go_wp2_with fail
  generalize w2.alloc (.cells #[.slice (some ⟨gp, 0, none⟩) n cp] 22) = w3 at *
  generalize w2.heap.size = g3 at *
  refine (indices_any n (by omega) w3 (by omega)).mono ?_
  rintro e w4 ⟨rfl, ho4, hb4⟩
  have HO4 := Lib.hid ho4
  have HB4 := Lib.hid hb4
  clear ho4 hb4 y0'
  go_wp2_with fail
  refine (sortStable_any 46 #[.pointer (some ⟨w.heap.size, 0, none⟩), .pointer (some ⟨g3, 0, none⟩)] hE (tabC rs n) (idxL n) n w3.heap.size w3.heap.size n w4 (idxL_len n) (by omega) (by omega) (Nat.le_refl _) (by omega) HB4.out.size HO4.out (fun x hx y hy W hW => by
    obtain ⟨a, ha, rfl⟩ := idxL_mem hx
    obtain ⟨b, hb, rfl⟩ := idxL_mem hy
    have hWW : Below w3.heap.size w3 W := HB4.out.trans hW
    exact tab1_any n (.slice A rs.length c) rs w.heap.size g3 gp cp a b W q0 (HR.out.below (Below.then HB3.out hWW)) (HX3.out.below hWW) ((hWW.cell (p := ⟨g3, 0, none⟩) (World.block_lt_of_cell? _ _ HC3.out)).trans HC3.out) hcp hncp (fun k hk => (hWW.cell (p := ⟨gp, k, none⟩) (World.block_lt_of_cell? _ _ (HP3.out k hk))).trans (HP3.out k hk)) ha hb)).mono ?_
  rintro e w5 ⟨rfl, ho5, hb5⟩
  have HO5 := Lib.hid ho5
  have HB5 := Lib.hid (HB4.out.trans hb5)
  clear ho5 hb5
  go_wp2
  go_ret
  exact ⟨_, rfl, by rw [hF.out]; exact HO5.out.mono HB3.out.size, Below.then HB3.out HB5.out⟩
end Go.Proofs.Ytdmneccfbfdloaa
