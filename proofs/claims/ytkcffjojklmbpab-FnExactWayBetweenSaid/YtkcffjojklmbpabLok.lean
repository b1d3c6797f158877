/- LeagueOk, the program's and the reference's. -/
import Derived.Test.YtkcffjojklmbpabLg
import Derived.Test.YtkcffjojklmbpabSl
import Derived.Test.YtkcffjojklmbpabHofR
namespace Go.Proofs.Ytkcffjojklmbpab
open Go.RowKit Go.Sort

/-- what is asked of a result in a league of s clubs -/
def resB (s : Int) (r : R4) : Bool := inB r.1 0 (s - 1) && (inB r.2.1 0 (s - 1) && (!(r.1 == r.2.1) && (inB r.2.2.1 0 99 && inB r.2.2.2 0 99)))
def leagueB (s : Int) (rs : List R4) : Bool := inB s 2 8 && (decide (rs.length ≤ 60) && rs.all (resB s))
theorem leagueB_true {s : Int} {rs : List R4} : leagueB s rs = true ↔ (2 ≤ s ∧ s ≤ 8) ∧ rs.length ≤ 60 ∧ ∀ r ∈ rs, resB s r = true := by
  simp [leagueB, inB_true]
theorem resB_true {s : Int} {r : R4} : resB s r = true ↔ (0 ≤ r.1 ∧ r.1 ≤ s - 1) ∧ (0 ≤ r.2.1 ∧ r.2.1 ≤ s - 1) ∧ r.1 ≠ r.2.1 ∧ (0 ≤ r.2.2.1 ∧ r.2.2.1 ≤ 99) ∧ (0 ≤ r.2.2.2 ∧ r.2.2.2 ≤ 99) := by
  simp [resB, inB_true]

end Go.Proofs.Ytkcffjojklmbpab
