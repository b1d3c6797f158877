/-
  No cell of these rows narrows 'for every input' (looked for: loops, veiled, ifaces, maps, wideKeys, modest, calm, conditions, laid).
  DERIVED. THE GIVEN ROWS OF THIS SEAT. 8 by the template 'for every input the law returns true; each argument reads behind the call as it read before'; 0 by the template 'total and deterministic' (their statements: YtmcajbhillekjaaTotals.lean).
  GIVEN WITH THE SEED: the statements are not yours to turn. If you find one false, say at which input.
  Laid BY PROGRAM, IN A SANDBOX (cutbox-rows.mjs): the forced cells as the released guide's own fill.sh prints them over the translation 50fd0c50f885459e… (all of the seat's roots in one cut). By AI agents, Wed Nov 11 2026. No macro, syntax, notation, axiom, sorry.
-/
import Derived.Test.YtmcajbhillekjaaChecked
import GoSem.Claim
import GoSem.ClaimJoined
import GoSem.ClaimMapViews
import Derived.JoinedTies
import Derived.KernelRfl
namespace Go.Proofs.Ytmcajbhillekjaa
/- THE CELL 'sum', in the pinned program and in every row, IS THE sha256 OF THE DUMP (.gsa) THAT YtmcajbhillekjaaProg.lean LOADS. Nothing in Lean hashes anything: it is a label: what it is worth is what the hold of that sum in a sandbox is worth. -/
noncomputable def Try.pinned : Pinned := { name := "ytmcajbhillekjaa", sum := "50fd0c50f885459eb35c80502bd83342ca9507e2f3200990acd39b7e57ac4d97", checked := Try.checked }
namespace Rows
def none {H : Type} : Left H := { results := [], args := [] }

/-- 'laws.FnExactDoAgree': WHATEVER THE INPUT: true; the input reads as it did. -/
def fnExactDoAgreeSpec : ChangeSpec := { name := "fnExactDoAgree", fn := fun _ => fun
  | [d1, d2] => { results := [.lit (.bool true)], args := [d1, d2] }
  | _ => none }
def fnExactDoAgreeRow : OpenClaim := { program := "ytmcajbhillekjaa", sum := "50fd0c50f885459eb35c80502bd83342ca9507e2f3200990acd39b7e57ac4d97", func := "loop.example/g03205/laws.FnExactDoAgree", spec := "fnExactDoAgree", apart := false }
def FnExactDoAgreeSaid : Prop := fnExactDoAgreeRow.holds Try.pinned (OpenSpec.ofChange fnExactDoAgreeSpec)

/-- ITS FALSE NEIGHBOUR: 'it returns false'. Refute it at one input. -/
def fnExactDoAgreeWrong : ChangeSpec := { name := "fnExactDoAgree", fn := fun _ => fun
  | [d1, d2] => { results := [.lit (.bool false)], args := [d1, d2] }
  | _ => none }
def FnExactDoAgreeWrongFalsely : Prop := fnExactDoAgreeRow.holds Try.pinned (OpenSpec.ofChange fnExactDoAgreeWrong)

/-- 'laws.FnExactIsConnection': WHATEVER THE INPUT: true; the input reads as it did. -/
def fnExactIsConnectionSpec : ChangeSpec := { name := "fnExactIsConnection", fn := fun _ => fun
  | [d1, d2] => { results := [.lit (.bool true)], args := [d1, d2] }
  | _ => none }
def fnExactIsConnectionRow : OpenClaim := { program := "ytmcajbhillekjaa", sum := "50fd0c50f885459eb35c80502bd83342ca9507e2f3200990acd39b7e57ac4d97", func := "loop.example/g03205/laws.FnExactIsConnection", spec := "fnExactIsConnection", apart := false }
def FnExactIsConnectionSaid : Prop := fnExactIsConnectionRow.holds Try.pinned (OpenSpec.ofChange fnExactIsConnectionSpec)

/-- ITS FALSE NEIGHBOUR: 'it returns false'. Refute it at one input. -/
def fnExactIsConnectionWrong : ChangeSpec := { name := "fnExactIsConnection", fn := fun _ => fun
  | [d1, d2] => { results := [.lit (.bool false)], args := [d1, d2] }
  | _ => none }
def FnExactIsConnectionWrongFalsely : Prop := fnExactIsConnectionRow.holds Try.pinned (OpenSpec.ofChange fnExactIsConnectionWrong)

/-- 'laws.FnExactRankBy': WHATEVER THE INPUT: true; the input reads as it did. -/
def fnExactRankBySpec : ChangeSpec := { name := "fnExactRankBy", fn := fun _ => fun
  | [d] => { results := [.lit (.bool true)], args := [d] }
  | _ => none }
def fnExactRankByRow : OpenClaim := { program := "ytmcajbhillekjaa", sum := "50fd0c50f885459eb35c80502bd83342ca9507e2f3200990acd39b7e57ac4d97", func := "loop.example/g03205/laws.FnExactRankBy", spec := "fnExactRankBy", apart := false }
def FnExactRankBySaid : Prop := fnExactRankByRow.holds Try.pinned (OpenSpec.ofChange fnExactRankBySpec)

/-- ITS FALSE NEIGHBOUR: 'it returns false'. Refute it at one input. -/
def fnExactRankByWrong : ChangeSpec := { name := "fnExactRankBy", fn := fun _ => fun
  | [d] => { results := [.lit (.bool false)], args := [d] }
  | _ => none }
def FnExactRankByWrongFalsely : Prop := fnExactRankByRow.holds Try.pinned (OpenSpec.ofChange fnExactRankByWrong)

/-- 'laws.FnExactAwayGoalWinner': WHATEVER THE INPUT: true; the input reads as it did. -/
def fnExactAwayGoalWinnerSpec : ChangeSpec := { name := "fnExactAwayGoalWinner", fn := fun _ => fun
  | [d1, d2] => { results := [.lit (.bool true)], args := [d1, d2] }
  | _ => none }
def fnExactAwayGoalWinnerRow : OpenClaim := { program := "ytmcajbhillekjaa", sum := "50fd0c50f885459eb35c80502bd83342ca9507e2f3200990acd39b7e57ac4d97", func := "loop.example/g03205/laws.FnExactAwayGoalWinner", spec := "fnExactAwayGoalWinner", unfollowed := true, recurses := true, apart := false }
def FnExactAwayGoalWinnerSaid : Prop := fnExactAwayGoalWinnerRow.holds Try.pinned (OpenSpec.ofChange fnExactAwayGoalWinnerSpec)

/-- ITS FALSE NEIGHBOUR: 'it returns false'. Refute it at one input. -/
def fnExactAwayGoalWinnerWrong : ChangeSpec := { name := "fnExactAwayGoalWinner", fn := fun _ => fun
  | [d1, d2] => { results := [.lit (.bool false)], args := [d1, d2] }
  | _ => none }
def FnExactAwayGoalWinnerWrongFalsely : Prop := fnExactAwayGoalWinnerRow.holds Try.pinned (OpenSpec.ofChange fnExactAwayGoalWinnerWrong)

/-- 'laws.FnExactLeagueOk': WHATEVER THE INPUT: true; the input reads as it did. -/
def fnExactLeagueOkSpec : ChangeSpec := { name := "fnExactLeagueOk", fn := fun _ => fun
  | [d] => { results := [.lit (.bool true)], args := [d] }
  | _ => none }
def fnExactLeagueOkRow : OpenClaim := { program := "ytmcajbhillekjaa", sum := "50fd0c50f885459eb35c80502bd83342ca9507e2f3200990acd39b7e57ac4d97", func := "loop.example/g03205/laws.FnExactLeagueOk", spec := "fnExactLeagueOk", unfollowed := true, recurses := true, apart := false }
def FnExactLeagueOkSaid : Prop := fnExactLeagueOkRow.holds Try.pinned (OpenSpec.ofChange fnExactLeagueOkSpec)

/-- ITS FALSE NEIGHBOUR: 'it returns false'. Refute it at one input. -/
def fnExactLeagueOkWrong : ChangeSpec := { name := "fnExactLeagueOk", fn := fun _ => fun
  | [d] => { results := [.lit (.bool false)], args := [d] }
  | _ => none }
def FnExactLeagueOkWrongFalsely : Prop := fnExactLeagueOkRow.holds Try.pinned (OpenSpec.ofChange fnExactLeagueOkWrong)

/-- 'laws.FnExactDoesBeat': WHATEVER THE INPUT: true; the input reads as it did. -/
def fnExactDoesBeatSpec : ChangeSpec := { name := "fnExactDoesBeat", fn := fun _ => fun
  | [d1, d2, d3] => { results := [.lit (.bool true)], args := [d1, d2, d3] }
  | _ => none }
def fnExactDoesBeatRow : OpenClaim := { program := "ytmcajbhillekjaa", sum := "50fd0c50f885459eb35c80502bd83342ca9507e2f3200990acd39b7e57ac4d97", func := "loop.example/g03205/laws.FnExactDoesBeat", spec := "fnExactDoesBeat", unfollowed := true, recurses := true, apart := false }
def FnExactDoesBeatSaid : Prop := fnExactDoesBeatRow.holds Try.pinned (OpenSpec.ofChange fnExactDoesBeatSpec)

/-- ITS FALSE NEIGHBOUR: 'it returns false'. Refute it at one input. -/
def fnExactDoesBeatWrong : ChangeSpec := { name := "fnExactDoesBeat", fn := fun _ => fun
  | [d1, d2, d3] => { results := [.lit (.bool false)], args := [d1, d2, d3] }
  | _ => none }
def FnExactDoesBeatWrongFalsely : Prop := fnExactDoesBeatRow.holds Try.pinned (OpenSpec.ofChange fnExactDoesBeatWrong)

/-- 'laws.FnExactDoesCover': WHATEVER THE INPUT: true; the input reads as it did. -/
def fnExactDoesCoverSpec : ChangeSpec := { name := "fnExactDoesCover", fn := fun _ => fun
  | [d1, d2, d3] => { results := [.lit (.bool true)], args := [d1, d2, d3] }
  | _ => none }
def fnExactDoesCoverRow : OpenClaim := { program := "ytmcajbhillekjaa", sum := "50fd0c50f885459eb35c80502bd83342ca9507e2f3200990acd39b7e57ac4d97", func := "loop.example/g03205/laws.FnExactDoesCover", spec := "fnExactDoesCover", unfollowed := true, recurses := true, apart := false }
def FnExactDoesCoverSaid : Prop := fnExactDoesCoverRow.holds Try.pinned (OpenSpec.ofChange fnExactDoesCoverSpec)

/-- ITS FALSE NEIGHBOUR: 'it returns false'. Refute it at one input. -/
def fnExactDoesCoverWrong : ChangeSpec := { name := "fnExactDoesCover", fn := fun _ => fun
  | [d1, d2, d3] => { results := [.lit (.bool false)], args := [d1, d2, d3] }
  | _ => none }
def FnExactDoesCoverWrongFalsely : Prop := fnExactDoesCoverRow.holds Try.pinned (OpenSpec.ofChange fnExactDoesCoverWrong)

/-- 'laws.FnExactMixStrategies': WHATEVER THE INPUT: true; the input reads as it did. -/
def fnExactMixStrategiesSpec : ChangeSpec := { name := "fnExactMixStrategies", fn := fun _ => fun
  | [d1, d2, d3, d4] => { results := [.lit (.bool true)], args := [d1, d2, d3, d4] }
  | _ => none }
def fnExactMixStrategiesRow : OpenClaim := { program := "ytmcajbhillekjaa", sum := "50fd0c50f885459eb35c80502bd83342ca9507e2f3200990acd39b7e57ac4d97", func := "loop.example/g03205/laws.FnExactMixStrategies", spec := "fnExactMixStrategies", unfollowed := true, recurses := true, apart := false }
def FnExactMixStrategiesSaid : Prop := fnExactMixStrategiesRow.holds Try.pinned (OpenSpec.ofChange fnExactMixStrategiesSpec)

/-- ITS FALSE NEIGHBOUR: 'it returns false'. Refute it at one input. -/
def fnExactMixStrategiesWrong : ChangeSpec := { name := "fnExactMixStrategies", fn := fun _ => fun
  | [d1, d2, d3, d4] => { results := [.lit (.bool false)], args := [d1, d2, d3, d4] }
  | _ => none }
def FnExactMixStrategiesWrongFalsely : Prop := fnExactMixStrategiesRow.holds Try.pinned (OpenSpec.ofChange fnExactMixStrategiesWrong)

/- THE SECOND FORM. 'bulk': how many values and letters a reading holds, each counted each time it is reached (what is shared counts as often as it is met; a slice's spare places count too). A statement '..UptoSaid' is the law's where the arguments, and the package variables that the reading takes, are together of bulk at most 1048576: NARROWER than '..Said'. Prove '..Said' where nothing that the law and all that it calls make is longer than what came in: it says more and counts as full. Else prove '..UptoSaid'. A law counts once. -/
mutual
def uptoBulk {H : Type} : DataW H → Nat
  | .lit (.string bytes) => bytes.length + 1
  | .lit _ => 1
  | .nil => 1
  | .ptr d => uptoBulk d + 1
  | .slice elems spare => uptoBulkAll elems + uptoBulkAll spare + 1
  | .agg parts => uptoBulkAll parts + 1
  | .iface _ d => uptoBulk d + 1
  | .map entries => uptoBulkEntries entries + 1
  | .held _ => 1
def uptoBulkAll {H : Type} : List (DataW H) → Nat
  | [] => 0
  | d :: r => uptoBulk d + uptoBulkAll r
def uptoBulkEntries {H : Type} : List (Lit × DataW H) → Nat
  | [] => 0
  | x :: r => uptoBulkEntry x + uptoBulkEntries r
def uptoBulkEntry {H : Type} : Lit × DataW H → Nat
  | (.string bytes, d) => bytes.length + uptoBulk d + 1
  | (_, d) => uptoBulk d + 1
 end
def uptoSmall : (H : Type) → List (DataW H) → Bool := fun _ ds => decide (uptoBulkAll ds ≤ 1048576)
def OpenSpec.upto (s : _root_.Go.ChangeSpec) : _root_.Go.OpenSpec := { _root_.Go.OpenSpec.ofChange s with cond := some uptoSmall }

/-- 'laws.FnExactDoAgree', WHERE WHAT IT READS IS OF BULK AT MOST 1048576: true; the input reads as it did. -/
def fnExactDoAgreeUptoRow : OpenClaim := { program := "ytmcajbhillekjaa", sum := "50fd0c50f885459eb35c80502bd83342ca9507e2f3200990acd39b7e57ac4d97", func := "loop.example/g03205/laws.FnExactDoAgree", spec := "fnExactDoAgree", apart := false, narrowed := true }
def FnExactDoAgreeUptoSaid : Prop := fnExactDoAgreeUptoRow.holds Try.pinned (OpenSpec.upto fnExactDoAgreeSpec)

/-- 'laws.FnExactIsConnection', WHERE WHAT IT READS IS OF BULK AT MOST 1048576: true; the input reads as it did. -/
def fnExactIsConnectionUptoRow : OpenClaim := { program := "ytmcajbhillekjaa", sum := "50fd0c50f885459eb35c80502bd83342ca9507e2f3200990acd39b7e57ac4d97", func := "loop.example/g03205/laws.FnExactIsConnection", spec := "fnExactIsConnection", apart := false, narrowed := true }
def FnExactIsConnectionUptoSaid : Prop := fnExactIsConnectionUptoRow.holds Try.pinned (OpenSpec.upto fnExactIsConnectionSpec)

/-- 'laws.FnExactRankBy', WHERE WHAT IT READS IS OF BULK AT MOST 1048576: true; the input reads as it did. -/
def fnExactRankByUptoRow : OpenClaim := { program := "ytmcajbhillekjaa", sum := "50fd0c50f885459eb35c80502bd83342ca9507e2f3200990acd39b7e57ac4d97", func := "loop.example/g03205/laws.FnExactRankBy", spec := "fnExactRankBy", apart := false, narrowed := true }
def FnExactRankByUptoSaid : Prop := fnExactRankByUptoRow.holds Try.pinned (OpenSpec.upto fnExactRankBySpec)

/-- 'laws.FnExactAwayGoalWinner', WHERE WHAT IT READS IS OF BULK AT MOST 1048576: true; the input reads as it did. -/
def fnExactAwayGoalWinnerUptoRow : OpenClaim := { program := "ytmcajbhillekjaa", sum := "50fd0c50f885459eb35c80502bd83342ca9507e2f3200990acd39b7e57ac4d97", func := "loop.example/g03205/laws.FnExactAwayGoalWinner", spec := "fnExactAwayGoalWinner", unfollowed := true, recurses := true, apart := false, narrowed := true }
def FnExactAwayGoalWinnerUptoSaid : Prop := fnExactAwayGoalWinnerUptoRow.holds Try.pinned (OpenSpec.upto fnExactAwayGoalWinnerSpec)

/-- 'laws.FnExactLeagueOk', WHERE WHAT IT READS IS OF BULK AT MOST 1048576: true; the input reads as it did. -/
def fnExactLeagueOkUptoRow : OpenClaim := { program := "ytmcajbhillekjaa", sum := "50fd0c50f885459eb35c80502bd83342ca9507e2f3200990acd39b7e57ac4d97", func := "loop.example/g03205/laws.FnExactLeagueOk", spec := "fnExactLeagueOk", unfollowed := true, recurses := true, apart := false, narrowed := true }
def FnExactLeagueOkUptoSaid : Prop := fnExactLeagueOkUptoRow.holds Try.pinned (OpenSpec.upto fnExactLeagueOkSpec)

/-- 'laws.FnExactDoesBeat', WHERE WHAT IT READS IS OF BULK AT MOST 1048576: true; the input reads as it did. -/
def fnExactDoesBeatUptoRow : OpenClaim := { program := "ytmcajbhillekjaa", sum := "50fd0c50f885459eb35c80502bd83342ca9507e2f3200990acd39b7e57ac4d97", func := "loop.example/g03205/laws.FnExactDoesBeat", spec := "fnExactDoesBeat", unfollowed := true, recurses := true, apart := false, narrowed := true }
def FnExactDoesBeatUptoSaid : Prop := fnExactDoesBeatUptoRow.holds Try.pinned (OpenSpec.upto fnExactDoesBeatSpec)

/-- 'laws.FnExactDoesCover', WHERE WHAT IT READS IS OF BULK AT MOST 1048576: true; the input reads as it did. -/
def fnExactDoesCoverUptoRow : OpenClaim := { program := "ytmcajbhillekjaa", sum := "50fd0c50f885459eb35c80502bd83342ca9507e2f3200990acd39b7e57ac4d97", func := "loop.example/g03205/laws.FnExactDoesCover", spec := "fnExactDoesCover", unfollowed := true, recurses := true, apart := false, narrowed := true }
def FnExactDoesCoverUptoSaid : Prop := fnExactDoesCoverUptoRow.holds Try.pinned (OpenSpec.upto fnExactDoesCoverSpec)

/-- 'laws.FnExactMixStrategies', WHERE WHAT IT READS IS OF BULK AT MOST 1048576: true; the input reads as it did. -/
def fnExactMixStrategiesUptoRow : OpenClaim := { program := "ytmcajbhillekjaa", sum := "50fd0c50f885459eb35c80502bd83342ca9507e2f3200990acd39b7e57ac4d97", func := "loop.example/g03205/laws.FnExactMixStrategies", spec := "fnExactMixStrategies", unfollowed := true, recurses := true, apart := false, narrowed := true }
def FnExactMixStrategiesUptoSaid : Prop := fnExactMixStrategiesUptoRow.holds Try.pinned (OpenSpec.upto fnExactMixStrategiesSpec)

end Rows
end Go.Proofs.Ytmcajbhillekjaa
