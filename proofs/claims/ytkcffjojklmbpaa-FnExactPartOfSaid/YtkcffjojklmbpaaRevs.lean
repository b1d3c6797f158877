/- slices.Reverse of ints. -/
import Derived.Test.YtkcffjojklmbpaaParts
import Derived.Deep.RegionLaw
namespace Go.Proofs.Ytkcffjojklmbpaa
open Go.RowKit Go.Sort
set_option maxRecDepth 100000
def revM (L : List Int) (n i : Nat) : List Int := (List.range n).map fun k => if k < i ∨ n - i ≤ k then L.getD (n - 1 - k) 0 else L.getD k 0
theorem revM_len (L : List Int) (n i : Nat) : (revM L n i).length = n := by simp [revM]
theorem revM_at {L : List Int} {n i k : Nat} (h : k < n) : (revM L n i).getD k 0 = if k < i ∨ n - i ≤ k then L.getD (n - 1 - k) 0 else L.getD k 0 := by simp [revM, h]
theorem revM_zero {L : List Int} {n : Nat} (h : L.length = n) : revM L n 0 = L := list_ext0 (revM_len _ _ _) h fun k hk => by rw [revM_at hk, if_neg (by omega)]
theorem revM_end {L : List Int} {n i : Nat} (h : L.length = n) (hi : n ≤ i + i + 1) (hi2 : i + i ≤ n) : revM L n i = L.reverse := list_ext0 (n := n) (revM_len _ _ _) (by rw [List.length_reverse]; exact h) fun k hk => by
  have e : L.reverse.getD k 0 = L.getD (n - 1 - k) 0 := by
    rw [List.getD_eq_getElem?_getD, List.getElem?_reverse (by omega), List.getD_eq_getElem?_getD, h]
  rw [revM_at hk, e]
  split
  · rfl
  · rw [show n - 1 - k = k by omega]
theorem revM_step {L : List Int} {n i j : Nat} (hj : j + i + 1 = n) (hij : i < j) : ((revM L n i).set i (L.getD j 0)).set j (L.getD i 0) = revM L n (i + 1) := list_ext0 (n := n) (by rw [List.length_set, List.length_set, revM_len]) (revM_len _ _ _) fun k hk => by
  by_cases e1 : k = j
  · subst e1
    rw [getD_set_same _ (by rw [List.length_set, revM_len]; exact hk), revM_at hk, if_pos (by omega), show n - 1 - k = i by omega]
  · rw [getD_set_other _ (Ne.symm e1)]
    by_cases e2 : k = i
    · subst e2
      rw [getD_set_same _ (by rw [revM_len]; exact hk), revM_at hk, if_pos (by omega), show n - 1 - k = j by omega]
    · rw [getD_set_other _ (Ne.symm e2), revM_at hk, revM_at hk]
      by_cases h : k < i ∨ n - i ≤ k
      · rw [if_pos h, if_pos (by omega)]
      · rw [if_neg h, if_neg (by omega)]
set_option maxHeartbeats 2000000 in
theorem reverse_any (L : List Int) (n base g c : Nat) (w : World) (hl : L.length = n) (h1 : 1 ≤ n) (hn : n ≤ 1000) (hbase : base ≤ w.heap.size) (hc : c ≤ maxLen) (hnc : n ≤ c) (h : Own w base (.slice (some ⟨g, 0, none⟩) n c) L) :
    Calls Try.prog 97 #[.slice (some ⟨g, 0, none⟩) n c] w fun e w' => e = .returned (.tuple #[]) ∧ Own w' base (.slice (some ⟨g, 0, none⟩) n c) L.reverse ∧ Below base w w' := by
  have HO := Lib.hid h
  have HL := Lib.hid hl
  have hg := (h.lt g rfl).1
  unfold maxLen at hc
  clear h hl
  go_enter Try.func97, Try.ntmps97
  go_wp2
  go_loopw [2, 3] (fun i j wr => ∃ a : Nat, a + a ≤ n + 1 ∧ a ≤ n ∧ i = .int .i64 a ∧ j = .int .i64 ((n : Int) - 1 - a) ∧ Hid (a + a ≤ n) ∧ Hid (Own wr base (.slice (some ⟨g, 0, none⟩) n c) (revM L n a)) ∧ Hid (Below base w wr)) (fun i _ _ => n - (intOf i).toNat)
  case atStart => exact ⟨0, by omega, by omega, rfl, by first | rfl | (congr 1; omega) | simp, by unfold Hid; omega, by rw [revM_zero HL.out]; exact HO.out, Below.refl _ _⟩
  case round =>
    obtain ⟨wo, rfl⟩ : ∃ x, x = wr := ⟨_, rfl⟩
    obtain ⟨a, ha1, ha, rfl, rfl, HAA, HOo, HBo⟩ := hrel
    by_cases hlt : (a : Int) < (n : Int) - 1 - a
    · obtain ⟨j, hj⟩ : ∃ j, j + a + 1 = n := ⟨n - 1 - a, by omega⟩
      have hjv : (n : Int) - 1 - a = j := by omega
      rw [hjv] at hlt
      rw [hjv]
      have haj : a < j := by omega
      have hl2 := revM_len L n a
      have hat := HOo.out.at1 hl2 (by omega)
      have z0 := hat.1 a (by omega)
      have z1 := hat.1 j (by omega)
      rw [revM_at (by omega), if_neg (by omega)] at z0 z1
      have f0 := hat.2 a
      have f1 := hat.2 j
      have HST := Lib.hid (revM_step (L := L) hj haj)
      have O3 := (HOo.out.set_ hl2 a (L.getD j 0)).1
      have O4 := (O3.set_ (by rw [List.length_set]; exact hl2) j (L.getD a 0)).1
      rw [HST.out] at O4
      have HO4 := Lib.hid O4
      have HB4 := Lib.hid ((HBo.out.setCell (p := ⟨g, a, none⟩) hg (.int .i64 (L.getD j 0))).setCell (p := ⟨g, j, none⟩) hg (.int .i64 (L.getD a 0)))
      clear O3 O4 hat hl2
      generalize L.getD a 0 = x at *
      generalize L.getD j 0 = y at *
      go_wp2_with fail
      have q1 : IntKind.i64.wrap ((j : Nat) : Int) = (j : Int) := by rw [IntKind.wrap_i64]; omega
      have q2 : IntKind.i64.wrap ((a : Nat) : Int) = (a : Int) := by rw [IntKind.wrap_i64]; omega
      have q3 : a < n := by omega
      have q4 : j < n := by omega
      have q5 : (a : Int) < n := by omega
      have q6 : (j : Int) < n := by omega
      have q7 : (0 : Int) ≤ a := by omega
      have q8 : (0 : Int) ≤ j := by omega
      have q9 : a ≠ j := by omega
      go_region_law (fail)
      all_goals
        clear z0 z1 f0 f1 q1 q2 q3 q4 q5 q6 q7 q8
        have HO5 : Hid (Own ((wo.setCell ⟨g, a, none⟩ (.int .i64 y)).setCell ⟨g, j, none⟩ (.int .i64 x)).drew base (.slice (some ⟨g, 0, none⟩) n c) (revM L n (a + 1))) := HO4.out
        have HB5 : Hid (Below base w ((wo.setCell ⟨g, a, none⟩ (.int .i64 y)).setCell ⟨g, j, none⟩ (.int .i64 x)).drew) := ⟨HB4.out.os, HB4.out.tape, HB4.out.output, HB4.out.size, HB4.out.block⟩
        clear HO4 HB4
        generalize ((wo.setCell ⟨g, a, none⟩ (.int .i64 y)).setCell ⟨g, j, none⟩ (.int .i64 x)).drew = w9 at HO5 HB5 ⊢
        go_wp2
        go_roundw
        case rel => exact ⟨a + 1, by omega, by omega, by go_num, by rw [show (n : Int) - 1 - ((a + 1 : Nat) : Int) = (j : Int) - 1 by omega], by unfold Hid; omega, HO5.out, HB5.out⟩
        case measure => simp [intOf]; omega
    · have HE : Hid (revM L n a = L.reverse) := revM_end HL.out (by omega) HAA.out
      go_wp2
      go_end0
      exact ⟨rfl, by rw [← HE.out]; exact HOo.out, HBo.out⟩
end Go.Proofs.Ytkcffjojklmbpaa
