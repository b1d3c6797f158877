/- indices: the numbers below n in order. -/
import Derived.Test.YtdmneccfbfdloaaSortI
import Derived.Test.YtdmneccfbfdloaaRep
namespace Go.Proofs.Ytdmneccfbfdloaa
open Go.RowKit Go.Sort
set_option maxRecDepth 100000

def idxL (n : Nat) : List Int := (List.range n).map fun (a : Nat) => (a : Int)
theorem idxL_len (n : Nat) : (idxL n).length = n := by simp [idxL]
theorem idxL_at {n a : Nat} (h : a < n) : (idxL n).getD a 0 = a := by simp [idxL, h]
theorem idxL_mem {n : Nat} {x : Int} (h : x ∈ idxL n) : ∃ a : Nat, a < n ∧ x = a := by
  unfold idxL at h
  rw [List.mem_map] at h
  obtain ⟨a, ha, e⟩ := h
  exact ⟨a, List.mem_range.1 ha, e.symm⟩
set_option maxHeartbeats 2000000 in
theorem indices_any (n : Nat) (hn : n ≤ 1000) (w : World) (h1 : 1 ≤ n) :
    Calls Try.prog 34 #[.int .i64 n] w fun e w' => e = .returned (.slice (some ⟨w.heap.size, 0, none⟩) n n) ∧ Own w' w.heap.size (.slice (some ⟨w.heap.size, 0, none⟩) n n) (idxL n) ∧ Below w.heap.size w w' := by
  obtain ⟨i0, hi, hz0, hz1, hz2⟩ := info_parts i64_info
  go_enter Try.func34, Try.ntmps34
  go_wp2_with (at_make; refine wpList_make_full _ rfl _ _ 22 rfl w.heap.size 3 i0 (.int .i64 0) 1 Try.underlying22 hi hz0 hz1 _ _ _ _ n rfl rfl rfl rfl (by rw [hz2]; omega) (by unfold maxLen; omega) (Nat.le_refl _) ?_; intro w1 hown hg1; have HB1 := Lib.hid ((Below.refl w.heap.size w).grown hg1 (Nat.le_refl _) (by simp)); have HOWN := Lib.hid hown; clear hown hg1)
  have HO1 : Hid (Own w1 w.heap.size (.slice (some ⟨w.heap.size, 0, none⟩) n n) (List.replicate n 0)) := by
    have ho := HOWN.out
    rw [ints_made'] at ho
    unfold Hid Own
    rw [List.length_replicate]
    exact ho
  clear HOWN
  go_loopw [9] (fun i wr => ∃ (k : Nat) (N : List Int), k ≤ n ∧ i = .int .i64 k ∧ N.length = n ∧ Own wr w.heap.size (.slice (some ⟨w.heap.size, 0, none⟩) n n) N ∧ Hid (∀ i, i < k → N.getD i 0 = (i : Int)) ∧ Below w.heap.size w wr) (fun i _ => n - (intOf i).toNat)
  case atStart => exact ⟨0, _, by omega, rfl, by simp, HO1.out, fun i hi => absurd hi (by omega), HB1.out⟩
  case round =>
    obtain ⟨k, N, hk, rfl, hNl, ho, HP, hb⟩ := hrel
    have HO := Lib.hid ho
    have HB := Lib.hid hb
    clear ho hb
    by_cases hlt : k < n
    · obtain ⟨hx, hf⟩ := HO.out.at1 hNl (by omega)
      have zk := hx k hlt
      have fk := hf k
      have HO3 := Lib.hid (HO.out.set_ hNl k (k : Int)).1
      have HB3 := Lib.hid (HB.out.setCell (p := ⟨w.heap.size, k, none⟩) (Nat.le_refl _) (.int .i64 k))
      clear hx hf
      go_wp2
      go_roundw
      case rel =>
        refine ⟨k + 1, N.set k k, by omega, by go_num, by simp [hNl], HO3.out, fun i hi => ?_, HB3.out⟩
        by_cases hik : i = k
        · subst hik; rw [getD_set_same _ (by omega)]
        · rw [getD_set_other _ (Ne.symm hik)]; exact HP.out i (by omega)
      case measure => simp [intOf]; omega
    · obtain rfl : n = k := by omega
      have HE : Hid (N = idxL n) := list_ext0 hNl (idxL_len n) fun i hi => by rw [HP.out i hi, idxL_at hi]
      go_wp2
      go_ret
      exact ⟨rfl, by rw [← HE.out]; exact HO.out, HB.out⟩
end Go.Proofs.Ytdmneccfbfdloaa
