/- slices.IndexFunc, slices.ContainsFunc over results with a closure: by the closure's own contract. -/
import Derived.Test.YtkcffjojklmbpabLg
import Derived.Test.YtkcffjojklmbpabHof
namespace Go.Proofs.Ytkcffjojklmbpab
open Go.RowKit

def findIR (p : R4 → Bool) (xs : List R4) : Int := match xs.findIdx? p with | some k => (k : Int) | none => -1

theorem findI_anyR (p : R4 → Bool) (xs : List R4) : decide (0 ≤ findIR p xs) = xs.any p := by
  unfold findIR
  rcases h : xs.findIdx? p with _ | k
  · rw [List.findIdx?_eq_none_iff] at h
    have : xs.any p = false := by simpa using h
    rw [this]; rfl
  · have hh := List.findIdx?_eq_some_iff_getElem.1 h
    obtain ⟨hl, hp, _⟩ := hh
    have : xs.any p = true := by rw [List.any_eq_true]; exact ⟨_, List.getElem_mem hl, hp⟩
    rw [this]; simp
theorem findI_missR {p : R4 → Bool} {xs : List R4} (h : ∀ x ∈ xs, p x = false) : findIR p xs = -1 := by
  unfold findIR
  have : xs.findIdx? p = none := by rw [List.findIdx?_eq_none_iff]; simpa using h
  rw [this]
theorem findI_hitR {p : R4 → Bool} {xs : List R4} {k : Nat} (hk : k < xs.length) (hp : p (r4At xs k) = true) (h : ∀ x ∈ xs.take k, p x = false) : findIR p xs = k := by
  unfold findIR
  have e : r4At xs k = xs[k] := by simp [r4At, hk]
  rw [e] at hp
  have : xs.findIdx? p = some k := by
    rw [List.findIdx?_eq_some_iff_getElem]
    refine ⟨hk, hp, fun j hj => ?_⟩
    have := h xs[j] (by
      rw [List.mem_iff_getElem?]
      exact ⟨j, by rw [List.getElem?_take, if_pos hj, List.getElem?_eq_getElem]⟩)
    simp [this]
  rw [this]
theorem findI_stepR {p : R4 → Bool} {xs : List R4} {k : Nat} (hk : k < xs.length) (hp : p (r4At xs k) = false) (h : ∀ x ∈ xs.take k, p x = false) : ∀ x ∈ xs.take (k + 1), p x = false := by
  rw [List.take_succ_eq_append_getElem hk]
  have e : r4At xs k = xs[k] := by simp [r4At, hk]
  rw [e] at hp
  intro x hx
  rw [List.mem_append, List.mem_singleton] at hx
  rcases hx with hx | rfl
  · exact h x hx
  · exact hp

end Go.Proofs.Ytkcffjojklmbpab
