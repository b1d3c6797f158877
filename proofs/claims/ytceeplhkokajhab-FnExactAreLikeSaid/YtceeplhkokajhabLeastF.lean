/- FnExactLeastName: the length. -/
import Derived.Test.YtceeplhkokajhabLeastS
namespace Go.Proofs.Ytceeplhkokajhab
open Go.RowKit Go.Sort
theorem lnL_is {s : Int} {xs : List Int} (h : symB6 s xs = true) : tourP s xs ∧ s ≤ 6 ∧ isLeast xs (lnL s xs) := by
  have h2 : tourB s xs = true ∧ s ≤ 6 := by simpa [symB6] using h
  have hp := tourB_true.1 h2.1
  refine ⟨hp, h2.2, ?_⟩
  rw [(ln_yes h).2]
  exact pick_is hp fun _ => Iff.rfl
theorem lnL_size {s : Int} {xs : List Int} (h : symB6 s xs = true) : ((lnL s xs).length : Int) = s := by
  obtain ⟨hp, -, ⟨ns, hP, e⟩, -⟩ := lnL_is h
  rw [e, rn_len rfl hP]
  exact hp.2.1
theorem lnL_len (s : Int) (xs : List Int) : (lnL s xs).length ≤ 8 := by
  rcases h : symB6 s xs with _ | _
  · rw [(ln_no h).2]; simp
  · have h1 := lnL_size h
    have h2 := (lnL_is h).2.1
    omega
end Go.Proofs.Ytceeplhkokajhab
