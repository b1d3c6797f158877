/- insertion sorts, plain. -/
import Derived.Test.YtdmneccfbfdloaaSymP
namespace Go.Proofs.Ytdmneccfbfdloaa
set_option maxRecDepth 100000
theorem posR_spec (bef : Int → Int → Bool) (x : Int) (S : List Int) (n : Nat) : (posR bef x S n = 0 ∨ bef x (S.getD (posR bef x S n - 1) 0) = false) ∧ ∀ k, posR bef x S n ≤ k → k < n → bef x (S.getD k 0) = true := by
  induction n with
  | zero => exact ⟨.inl rfl, fun k _ h => absurd h (by omega)⟩
  | succ n ih =>
    rcases hq : bef x (S.getD n 0) with _ | _
    · rw [posR_stop hq]
      exact ⟨.inr (by simpa using hq), fun k h1 h2 => absurd h1 (by omega)⟩
    · rw [posR_go hq]
      refine ⟨ih.1, fun k h1 h2 => ?_⟩
      by_cases h : k = n
      · rw [h]; exact hq
      · exact ih.2 k h1 (by omega)
theorem insR_sorted {K : Int → Int} {bef : Int → Int → Bool} {S : List Int} {x : Int} (hb : ∀ a ∈ S, bef x a = decide (K x < K a)) (hS : S.Pairwise (LtK K)) (hx : ∀ y ∈ S, y < x) : (insR bef S x).Pairwise (LtK K) ∧ (insR bef S x).Perm (S ++ [x]) := by
  obtain ⟨h1, h2⟩ := posR_spec bef x S S.length
  have h3 := posR_le bef x S S.length
  unfold insR
  refine ins_right hS hx (fun k q1 q2 => ?_) (fun k q1 q2 => ?_)
  · rcases h1 with h1 | h1
    · omega
    · rw [hb _ (getD_memI (by omega))] at h1
      have e1 := of_decide_eq_false h1
      have e2 := sorted_K hS (i := k) (j := posR bef x S S.length - 1) (by omega) (by omega)
      omega
  · have e := h2 k q1 q2
    rw [hb _ (getD_memI q2)] at e
    exact of_decide_eq_true e
theorem sortR_sorted {K : Int → Int} {bef : Int → Int → Bool} (L : List Int) (hb : ∀ x ∈ L, ∀ y ∈ L, bef x y = decide (K x < K y)) (hL : L.Pairwise (· < ·)) : (sortR bef L).Pairwise (LtK K) ∧ (sortR bef L).Perm L := by
  have : ∀ i, i ≤ L.length → (sortR bef (L.take i)).Pairwise (LtK K) ∧ (sortR bef (L.take i)).Perm (L.take i) := by
    intro i
    induction i with
    | zero => intro _; exact ⟨by simp [sortR], by simp [sortR]⟩
    | succ i ih =>
      intro hi
      obtain ⟨h1, h2⟩ := ih (by omega)
      rw [sortR_succ bef L (by omega), List.take_succ_eq_append_getElem (by omega), show L.getD i 0 = L[i] by simp [show i < L.length by omega]]
      have h3 : ∀ a ∈ sortR bef (L.take i), a ∈ L.take i := fun a ha => h2.mem_iff.1 ha
      obtain ⟨r1, r2⟩ := insR_sorted (K := K) (bef := bef) (S := sortR bef (L.take i)) (x := L[i]) (fun a ha => hb _ (List.getElem_mem _) _ (List.mem_of_mem_take (h3 a ha))) h1 (fun y hy => by
        have := h3 y hy
        have hp := hL
        rw [← List.take_append_drop i L, List.pairwise_append] at hp
        exact hp.2.2 y this _ (by rw [List.drop_eq_getElem_cons (by omega)]; exact List.mem_cons_self))
      exact ⟨r1, r2.trans (h2.append_right _)⟩
  have := this L.length (Nat.le_refl _)
  rwa [List.take_length] at this
end Go.Proofs.Ytdmneccfbfdloaa
