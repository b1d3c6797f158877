/- FnExactScoreOf: the functions. -/
import Derived.Test.YtceeplhkokajhabTourOkS
import Derived.Test.YtceeplhkokajhabSets
namespace Go.Proofs.Ytceeplhkokajhab
open Go.RowKit Go.Sort

/-- the number of binary digits 1 -/
def popN : Nat → Nat → Nat
  | 0, _ => 0
  | k + 1, n => n % 2 + popN k (n / 2)
theorem popN_zero (k : Nat) : popN k 0 = 0 := by
  induction k with
  | zero => rfl
  | succ k ih => simp [popN, ih]
theorem popN_le (k n : Nat) : popN k n ≤ k := by
  induction k generalizing n with
  | zero => simp [popN]
  | succ k ih =>
    have := ih (n / 2)
    simp only [popN]; omega
end Go.Proofs.Ytceeplhkokajhab
