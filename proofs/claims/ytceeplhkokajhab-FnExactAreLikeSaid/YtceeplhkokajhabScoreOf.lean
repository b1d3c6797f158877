/- FnExactScoreOf: the functions. -/
import Derived.Test.YtceeplhkokajhabScore
import Derived.Test.YtceeplhkokajhabBeat
namespace Go.Proofs.Ytceeplhkokajhab
open Go.RowKit Go.Sort

/-- a player's wins as a natural number -/
def winsN (xs : List Int) (a : Nat) : Nat := (xs.getD a 0).toNat
theorem tour_wins {s : Int} {xs : List Int} (h : tourP s xs) {a : Nat} (ha : a < xs.length) : xs.getD a 0 = (winsN xs a : Int) ∧ winsN xs a < 2 ^ s.toNat ∧ winsN xs a < 256 := by
  have hm : xs.getD a 0 ∈ xs := by
    rw [List.getD_eq_getElem?_getD, List.getElem?_eq_getElem ha]; exact List.getElem_mem _
  have hx := h.2.2.1 _ hm
  have hp := pow_small s (by have := h.1; omega)
  have h2 : ((2 : Int) ^ s.toNat) = ((2 ^ s.toNat : Nat) : Int) := by simp
  unfold winsN
  rw [h2] at hp hx
  omega
noncomputable def scI (s : Int) (xs : List Int) (a : Int) : Int := if (tourB s xs && inB a 0 (s - 1)) = true then (popN 8 (winsN xs a.toNat) : Int) else -1
end Go.Proofs.Ytceeplhkokajhab
