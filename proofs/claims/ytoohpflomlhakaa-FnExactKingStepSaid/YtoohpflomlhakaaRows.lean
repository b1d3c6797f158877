/-
  No cell of these rows narrows 'for every input' (looked for: loops, veiled, ifaces, maps, wideKeys, modest, calm, conditions, laid).
  DERIVED. THE GIVEN ROWS OF THIS SEAT. 12 by the template 'for every input the law returns true; each argument reads behind the call as it read before'; 0 by the template 'total and deterministic' (their statements: YtoohpflomlhakaaTotals.lean).
  GIVEN WITH THE SEED: the statements are not yours to turn. If you find one false, say at which input.
  Laid BY PROGRAM, IN A SANDBOX (cutbox-rows.mjs): the forced cells as the released guide's own fill.sh prints them over the translation db1babc262042ff4… (all of the seat's roots in one cut). By AI agents, Wed Nov 11 2026. No macro, syntax, notation, axiom, sorry.
-/
import Derived.Test.YtoohpflomlhakaaChecked
import GoSem.Claim
import GoSem.ClaimJoined
import GoSem.ClaimMapViews
import Derived.JoinedTies
import Derived.KernelRfl
namespace Go.Proofs.Ytoohpflomlhakaa
/- THE CELL 'sum', in the pinned program and in every row, IS THE sha256 OF THE DUMP (.gsa) THAT YtoohpflomlhakaaProg.lean LOADS. Nothing in Lean hashes anything: it is a label: what it is worth is what the hold of that sum in a sandbox is worth. -/
noncomputable def Try.pinned : Pinned := { name := "ytoohpflomlhakaa", sum := "db1babc262042ff4000d595a42009ce83954c5364f12f5ae8f339f608dd5ebd8", checked := Try.checked }
namespace Rows
def none {H : Type} : Left H := { results := [], args := [] }

/-- 'laws.FnExactStrategyOk': WHATEVER THE INPUT: true; the input reads as it did. -/
def fnExactStrategyOkSpec : ChangeSpec := { name := "fnExactStrategyOk", fn := fun _ => fun
  | [d1, d2] => { results := [.lit (.bool true)], args := [d1, d2] }
  | _ => none }
def fnExactStrategyOkRow : OpenClaim := { program := "ytoohpflomlhakaa", sum := "db1babc262042ff4000d595a42009ce83954c5364f12f5ae8f339f608dd5ebd8", func := "loop.example/g03205/laws.FnExactStrategyOk", spec := "fnExactStrategyOk", unfollowed := true, recurses := true, apart := false }
def FnExactStrategyOkSaid : Prop := fnExactStrategyOkRow.holds Try.pinned (OpenSpec.ofChange fnExactStrategyOkSpec)

/-- ITS FALSE NEIGHBOUR: 'it returns false'. Refute it at one input. -/
def fnExactStrategyOkWrong : ChangeSpec := { name := "fnExactStrategyOk", fn := fun _ => fun
  | [d1, d2] => { results := [.lit (.bool false)], args := [d1, d2] }
  | _ => none }
def FnExactStrategyOkWrongFalsely : Prop := fnExactStrategyOkRow.holds Try.pinned (OpenSpec.ofChange fnExactStrategyOkWrong)

/-- 'laws.FnExactIsWay': WHATEVER THE INPUT: true; the input reads as it did. -/
def fnExactIsWaySpec : ChangeSpec := { name := "fnExactIsWay", fn := fun _ => fun
  | [d1, d2] => { results := [.lit (.bool true)], args := [d1, d2] }
  | _ => none }
def fnExactIsWayRow : OpenClaim := { program := "ytoohpflomlhakaa", sum := "db1babc262042ff4000d595a42009ce83954c5364f12f5ae8f339f608dd5ebd8", func := "loop.example/g03205/laws.FnExactIsWay", spec := "fnExactIsWay", unfollowed := true, recurses := true, apart := false }
def FnExactIsWaySaid : Prop := fnExactIsWayRow.holds Try.pinned (OpenSpec.ofChange fnExactIsWaySpec)

/-- ITS FALSE NEIGHBOUR: 'it returns false'. Refute it at one input. -/
def fnExactIsWayWrong : ChangeSpec := { name := "fnExactIsWay", fn := fun _ => fun
  | [d1, d2] => { results := [.lit (.bool false)], args := [d1, d2] }
  | _ => none }
def FnExactIsWayWrongFalsely : Prop := fnExactIsWayRow.holds Try.pinned (OpenSpec.ofChange fnExactIsWayWrong)

/-- 'laws.FnExactIsKing': WHATEVER THE INPUT: true; the input reads as it did. -/
def fnExactIsKingSpec : ChangeSpec := { name := "fnExactIsKing", fn := fun _ => fun
  | [d1, d2] => { results := [.lit (.bool true)], args := [d1, d2] }
  | _ => none }
def fnExactIsKingRow : OpenClaim := { program := "ytoohpflomlhakaa", sum := "db1babc262042ff4000d595a42009ce83954c5364f12f5ae8f339f608dd5ebd8", func := "loop.example/g03205/laws.FnExactIsKing", spec := "fnExactIsKing", unfollowed := true, recurses := true, apart := false }
def FnExactIsKingSaid : Prop := fnExactIsKingRow.holds Try.pinned (OpenSpec.ofChange fnExactIsKingSpec)

/-- ITS FALSE NEIGHBOUR: 'it returns false'. Refute it at one input. -/
def fnExactIsKingWrong : ChangeSpec := { name := "fnExactIsKing", fn := fun _ => fun
  | [d1, d2] => { results := [.lit (.bool false)], args := [d1, d2] }
  | _ => none }
def FnExactIsKingWrongFalsely : Prop := fnExactIsKingRow.holds Try.pinned (OpenSpec.ofChange fnExactIsKingWrong)

/-- 'laws.FnExactIsCycle': WHATEVER THE INPUT: true; the input reads as it did. -/
def fnExactIsCycleSpec : ChangeSpec := { name := "fnExactIsCycle", fn := fun _ => fun
  | [d1, d2] => { results := [.lit (.bool true)], args := [d1, d2] }
  | _ => none }
def fnExactIsCycleRow : OpenClaim := { program := "ytoohpflomlhakaa", sum := "db1babc262042ff4000d595a42009ce83954c5364f12f5ae8f339f608dd5ebd8", func := "loop.example/g03205/laws.FnExactIsCycle", spec := "fnExactIsCycle", unfollowed := true, recurses := true, apart := false }
def FnExactIsCycleSaid : Prop := fnExactIsCycleRow.holds Try.pinned (OpenSpec.ofChange fnExactIsCycleSpec)

/-- ITS FALSE NEIGHBOUR: 'it returns false'. Refute it at one input. -/
def fnExactIsCycleWrong : ChangeSpec := { name := "fnExactIsCycle", fn := fun _ => fun
  | [d1, d2] => { results := [.lit (.bool false)], args := [d1, d2] }
  | _ => none }
def FnExactIsCycleWrongFalsely : Prop := fnExactIsCycleRow.holds Try.pinned (OpenSpec.ofChange fnExactIsCycleWrong)

/-- 'laws.FnExactReachOf': WHATEVER THE INPUT: true; the input reads as it did. -/
def fnExactReachOfSpec : ChangeSpec := { name := "fnExactReachOf", fn := fun _ => fun
  | [d1, d2] => { results := [.lit (.bool true)], args := [d1, d2] }
  | _ => none }
def fnExactReachOfRow : OpenClaim := { program := "ytoohpflomlhakaa", sum := "db1babc262042ff4000d595a42009ce83954c5364f12f5ae8f339f608dd5ebd8", func := "loop.example/g03205/laws.FnExactReachOf", spec := "fnExactReachOf", unfollowed := true, recurses := true, apart := false }
def FnExactReachOfSaid : Prop := fnExactReachOfRow.holds Try.pinned (OpenSpec.ofChange fnExactReachOfSpec)

/-- ITS FALSE NEIGHBOUR: 'it returns false'. Refute it at one input. -/
def fnExactReachOfWrong : ChangeSpec := { name := "fnExactReachOf", fn := fun _ => fun
  | [d1, d2] => { results := [.lit (.bool false)], args := [d1, d2] }
  | _ => none }
def FnExactReachOfWrongFalsely : Prop := fnExactReachOfRow.holds Try.pinned (OpenSpec.ofChange fnExactReachOfWrong)

/-- 'laws.FnExactCountWaysFrom': WHATEVER THE INPUT: true; the input reads as it did. -/
def fnExactCountWaysFromSpec : ChangeSpec := { name := "fnExactCountWaysFrom", fn := fun _ => fun
  | [d1, d2] => { results := [.lit (.bool true)], args := [d1, d2] }
  | _ => none }
def fnExactCountWaysFromRow : OpenClaim := { program := "ytoohpflomlhakaa", sum := "db1babc262042ff4000d595a42009ce83954c5364f12f5ae8f339f608dd5ebd8", func := "loop.example/g03205/laws.FnExactCountWaysFrom", spec := "fnExactCountWaysFrom", unfollowed := true, recurses := true, apart := false }
def FnExactCountWaysFromSaid : Prop := fnExactCountWaysFromRow.holds Try.pinned (OpenSpec.ofChange fnExactCountWaysFromSpec)

/-- ITS FALSE NEIGHBOUR: 'it returns false'. Refute it at one input. -/
def fnExactCountWaysFromWrong : ChangeSpec := { name := "fnExactCountWaysFrom", fn := fun _ => fun
  | [d1, d2] => { results := [.lit (.bool false)], args := [d1, d2] }
  | _ => none }
def FnExactCountWaysFromWrongFalsely : Prop := fnExactCountWaysFromRow.holds Try.pinned (OpenSpec.ofChange fnExactCountWaysFromWrong)

/-- 'laws.FnExactFlipGame': WHATEVER THE INPUT: true; the input reads as it did. -/
def fnExactFlipGameSpec : ChangeSpec := { name := "fnExactFlipGame", fn := fun _ => fun
  | [d1, d2, d3] => { results := [.lit (.bool true)], args := [d1, d2, d3] }
  | _ => none }
def fnExactFlipGameRow : OpenClaim := { program := "ytoohpflomlhakaa", sum := "db1babc262042ff4000d595a42009ce83954c5364f12f5ae8f339f608dd5ebd8", func := "loop.example/g03205/laws.FnExactFlipGame", spec := "fnExactFlipGame", unfollowed := true, recurses := true, apart := false }
def FnExactFlipGameSaid : Prop := fnExactFlipGameRow.holds Try.pinned (OpenSpec.ofChange fnExactFlipGameSpec)

/-- ITS FALSE NEIGHBOUR: 'it returns false'. Refute it at one input. -/
def fnExactFlipGameWrong : ChangeSpec := { name := "fnExactFlipGame", fn := fun _ => fun
  | [d1, d2, d3] => { results := [.lit (.bool false)], args := [d1, d2, d3] }
  | _ => none }
def FnExactFlipGameWrongFalsely : Prop := fnExactFlipGameRow.holds Try.pinned (OpenSpec.ofChange fnExactFlipGameWrong)

/-- 'laws.FnExactScoreOf': WHATEVER THE INPUT: true; the input reads as it did. -/
def fnExactScoreOfSpec : ChangeSpec := { name := "fnExactScoreOf", fn := fun _ => fun
  | [d1, d2] => { results := [.lit (.bool true)], args := [d1, d2] }
  | _ => none }
def fnExactScoreOfRow : OpenClaim := { program := "ytoohpflomlhakaa", sum := "db1babc262042ff4000d595a42009ce83954c5364f12f5ae8f339f608dd5ebd8", func := "loop.example/g03205/laws.FnExactScoreOf", spec := "fnExactScoreOf", unfollowed := true, recurses := true, apart := false }
def FnExactScoreOfSaid : Prop := fnExactScoreOfRow.holds Try.pinned (OpenSpec.ofChange fnExactScoreOfSpec)

/-- ITS FALSE NEIGHBOUR: 'it returns false'. Refute it at one input. -/
def fnExactScoreOfWrong : ChangeSpec := { name := "fnExactScoreOf", fn := fun _ => fun
  | [d1, d2] => { results := [.lit (.bool false)], args := [d1, d2] }
  | _ => none }
def FnExactScoreOfWrongFalsely : Prop := fnExactScoreOfRow.holds Try.pinned (OpenSpec.ofChange fnExactScoreOfWrong)

/-- 'laws.FnExactBalanceOf': WHATEVER THE INPUT: true; the input reads as it did. -/
def fnExactBalanceOfSpec : ChangeSpec := { name := "fnExactBalanceOf", fn := fun _ => fun
  | [d1, d2, d3] => { results := [.lit (.bool true)], args := [d1, d2, d3] }
  | _ => none }
def fnExactBalanceOfRow : OpenClaim := { program := "ytoohpflomlhakaa", sum := "db1babc262042ff4000d595a42009ce83954c5364f12f5ae8f339f608dd5ebd8", func := "loop.example/g03205/laws.FnExactBalanceOf", spec := "fnExactBalanceOf", unfollowed := true, recurses := true, apart := false }
def FnExactBalanceOfSaid : Prop := fnExactBalanceOfRow.holds Try.pinned (OpenSpec.ofChange fnExactBalanceOfSpec)

/-- ITS FALSE NEIGHBOUR: 'it returns false'. Refute it at one input. -/
def fnExactBalanceOfWrong : ChangeSpec := { name := "fnExactBalanceOf", fn := fun _ => fun
  | [d1, d2, d3] => { results := [.lit (.bool false)], args := [d1, d2, d3] }
  | _ => none }
def FnExactBalanceOfWrongFalsely : Prop := fnExactBalanceOfRow.holds Try.pinned (OpenSpec.ofChange fnExactBalanceOfWrong)

/-- 'laws.FnExactIsSafe': WHATEVER THE INPUT: true; the input reads as it did. -/
def fnExactIsSafeSpec : ChangeSpec := { name := "fnExactIsSafe", fn := fun _ => fun
  | [d1, d2] => { results := [.lit (.bool true)], args := [d1, d2] }
  | _ => none }
def fnExactIsSafeRow : OpenClaim := { program := "ytoohpflomlhakaa", sum := "db1babc262042ff4000d595a42009ce83954c5364f12f5ae8f339f608dd5ebd8", func := "loop.example/g03205/laws.FnExactIsSafe", spec := "fnExactIsSafe", unfollowed := true, recurses := true, apart := false }
def FnExactIsSafeSaid : Prop := fnExactIsSafeRow.holds Try.pinned (OpenSpec.ofChange fnExactIsSafeSpec)

/-- ITS FALSE NEIGHBOUR: 'it returns false'. Refute it at one input. -/
def fnExactIsSafeWrong : ChangeSpec := { name := "fnExactIsSafe", fn := fun _ => fun
  | [d1, d2] => { results := [.lit (.bool false)], args := [d1, d2] }
  | _ => none }
def FnExactIsSafeWrongFalsely : Prop := fnExactIsSafeRow.holds Try.pinned (OpenSpec.ofChange fnExactIsSafeWrong)

/-- 'laws.FnExactBestAnswer': WHATEVER THE INPUT: true; the input reads as it did. -/
def fnExactBestAnswerSpec : ChangeSpec := { name := "fnExactBestAnswer", fn := fun _ => fun
  | [d1, d2] => { results := [.lit (.bool true)], args := [d1, d2] }
  | _ => none }
def fnExactBestAnswerRow : OpenClaim := { program := "ytoohpflomlhakaa", sum := "db1babc262042ff4000d595a42009ce83954c5364f12f5ae8f339f608dd5ebd8", func := "loop.example/g03205/laws.FnExactBestAnswer", spec := "fnExactBestAnswer", unfollowed := true, recurses := true, apart := false }
def FnExactBestAnswerSaid : Prop := fnExactBestAnswerRow.holds Try.pinned (OpenSpec.ofChange fnExactBestAnswerSpec)

/-- ITS FALSE NEIGHBOUR: 'it returns false'. Refute it at one input. -/
def fnExactBestAnswerWrong : ChangeSpec := { name := "fnExactBestAnswer", fn := fun _ => fun
  | [d1, d2] => { results := [.lit (.bool false)], args := [d1, d2] }
  | _ => none }
def FnExactBestAnswerWrongFalsely : Prop := fnExactBestAnswerRow.holds Try.pinned (OpenSpec.ofChange fnExactBestAnswerWrong)

/-- 'laws.FnExactKingStep': WHATEVER THE INPUT: true; the input reads as it did. -/
def fnExactKingStepSpec : ChangeSpec := { name := "fnExactKingStep", fn := fun _ => fun
  | [d1, d2] => { results := [.lit (.bool true)], args := [d1, d2] }
  | _ => none }
def fnExactKingStepRow : OpenClaim := { program := "ytoohpflomlhakaa", sum := "db1babc262042ff4000d595a42009ce83954c5364f12f5ae8f339f608dd5ebd8", func := "loop.example/g03205/laws.FnExactKingStep", spec := "fnExactKingStep", unfollowed := true, recurses := true, apart := false }
def FnExactKingStepSaid : Prop := fnExactKingStepRow.holds Try.pinned (OpenSpec.ofChange fnExactKingStepSpec)

/-- ITS FALSE NEIGHBOUR: 'it returns false'. Refute it at one input. -/
def fnExactKingStepWrong : ChangeSpec := { name := "fnExactKingStep", fn := fun _ => fun
  | [d1, d2] => { results := [.lit (.bool false)], args := [d1, d2] }
  | _ => none }
def FnExactKingStepWrongFalsely : Prop := fnExactKingStepRow.holds Try.pinned (OpenSpec.ofChange fnExactKingStepWrong)

/- THE SECOND FORM. 'bulk': how many values and letters a reading holds, each counted each time it is reached (what is shared counts as often as it is met; a slice's spare places count too). A statement '..UptoSaid' is the law's where the arguments, and the package variables that the reading takes, are together of bulk at most 1048576: NARROWER than '..Said'. Prove '..Said' where nothing that the law and all that it calls make is longer than what came in: it says more and counts as full. Else prove '..UptoSaid'. A law counts once. -/
mutual
def uptoBulk {H : Type} : DataW H → Nat
  | .lit (.string bytes) => bytes.length + 1
  | .lit _ => 1
  | .nil => 1
  | .ptr d => uptoBulk d + 1
  | .slice elems spare => uptoBulkAll elems + uptoBulkAll spare + 1
  | .agg parts => uptoBulkAll parts + 1
  | .iface _ d => uptoBulk d + 1
  | .map entries => uptoBulkEntries entries + 1
  | .held _ => 1
def uptoBulkAll {H : Type} : List (DataW H) → Nat
  | [] => 0
  | d :: r => uptoBulk d + uptoBulkAll r
def uptoBulkEntries {H : Type} : List (Lit × DataW H) → Nat
  | [] => 0
  | x :: r => uptoBulkEntry x + uptoBulkEntries r
def uptoBulkEntry {H : Type} : Lit × DataW H → Nat
  | (.string bytes, d) => bytes.length + uptoBulk d + 1
  | (_, d) => uptoBulk d + 1
 end
def uptoSmall : (H : Type) → List (DataW H) → Bool := fun _ ds => decide (uptoBulkAll ds ≤ 1048576)
def OpenSpec.upto (s : _root_.Go.ChangeSpec) : _root_.Go.OpenSpec := { _root_.Go.OpenSpec.ofChange s with cond := some uptoSmall }

/-- 'laws.FnExactStrategyOk', WHERE WHAT IT READS IS OF BULK AT MOST 1048576: true; the input reads as it did. -/
def fnExactStrategyOkUptoRow : OpenClaim := { program := "ytoohpflomlhakaa", sum := "db1babc262042ff4000d595a42009ce83954c5364f12f5ae8f339f608dd5ebd8", func := "loop.example/g03205/laws.FnExactStrategyOk", spec := "fnExactStrategyOk", unfollowed := true, recurses := true, apart := false, narrowed := true }
def FnExactStrategyOkUptoSaid : Prop := fnExactStrategyOkUptoRow.holds Try.pinned (OpenSpec.upto fnExactStrategyOkSpec)

/-- 'laws.FnExactIsWay', WHERE WHAT IT READS IS OF BULK AT MOST 1048576: true; the input reads as it did. -/
def fnExactIsWayUptoRow : OpenClaim := { program := "ytoohpflomlhakaa", sum := "db1babc262042ff4000d595a42009ce83954c5364f12f5ae8f339f608dd5ebd8", func := "loop.example/g03205/laws.FnExactIsWay", spec := "fnExactIsWay", unfollowed := true, recurses := true, apart := false, narrowed := true }
def FnExactIsWayUptoSaid : Prop := fnExactIsWayUptoRow.holds Try.pinned (OpenSpec.upto fnExactIsWaySpec)

/-- 'laws.FnExactIsKing', WHERE WHAT IT READS IS OF BULK AT MOST 1048576: true; the input reads as it did. -/
def fnExactIsKingUptoRow : OpenClaim := { program := "ytoohpflomlhakaa", sum := "db1babc262042ff4000d595a42009ce83954c5364f12f5ae8f339f608dd5ebd8", func := "loop.example/g03205/laws.FnExactIsKing", spec := "fnExactIsKing", unfollowed := true, recurses := true, apart := false, narrowed := true }
def FnExactIsKingUptoSaid : Prop := fnExactIsKingUptoRow.holds Try.pinned (OpenSpec.upto fnExactIsKingSpec)

/-- 'laws.FnExactIsCycle', WHERE WHAT IT READS IS OF BULK AT MOST 1048576: true; the input reads as it did. -/
def fnExactIsCycleUptoRow : OpenClaim := { program := "ytoohpflomlhakaa", sum := "db1babc262042ff4000d595a42009ce83954c5364f12f5ae8f339f608dd5ebd8", func := "loop.example/g03205/laws.FnExactIsCycle", spec := "fnExactIsCycle", unfollowed := true, recurses := true, apart := false, narrowed := true }
def FnExactIsCycleUptoSaid : Prop := fnExactIsCycleUptoRow.holds Try.pinned (OpenSpec.upto fnExactIsCycleSpec)

/-- 'laws.FnExactReachOf', WHERE WHAT IT READS IS OF BULK AT MOST 1048576: true; the input reads as it did. -/
def fnExactReachOfUptoRow : OpenClaim := { program := "ytoohpflomlhakaa", sum := "db1babc262042ff4000d595a42009ce83954c5364f12f5ae8f339f608dd5ebd8", func := "loop.example/g03205/laws.FnExactReachOf", spec := "fnExactReachOf", unfollowed := true, recurses := true, apart := false, narrowed := true }
def FnExactReachOfUptoSaid : Prop := fnExactReachOfUptoRow.holds Try.pinned (OpenSpec.upto fnExactReachOfSpec)

/-- 'laws.FnExactCountWaysFrom', WHERE WHAT IT READS IS OF BULK AT MOST 1048576: true; the input reads as it did. -/
def fnExactCountWaysFromUptoRow : OpenClaim := { program := "ytoohpflomlhakaa", sum := "db1babc262042ff4000d595a42009ce83954c5364f12f5ae8f339f608dd5ebd8", func := "loop.example/g03205/laws.FnExactCountWaysFrom", spec := "fnExactCountWaysFrom", unfollowed := true, recurses := true, apart := false, narrowed := true }
def FnExactCountWaysFromUptoSaid : Prop := fnExactCountWaysFromUptoRow.holds Try.pinned (OpenSpec.upto fnExactCountWaysFromSpec)

/-- 'laws.FnExactFlipGame', WHERE WHAT IT READS IS OF BULK AT MOST 1048576: true; the input reads as it did. -/
def fnExactFlipGameUptoRow : OpenClaim := { program := "ytoohpflomlhakaa", sum := "db1babc262042ff4000d595a42009ce83954c5364f12f5ae8f339f608dd5ebd8", func := "loop.example/g03205/laws.FnExactFlipGame", spec := "fnExactFlipGame", unfollowed := true, recurses := true, apart := false, narrowed := true }
def FnExactFlipGameUptoSaid : Prop := fnExactFlipGameUptoRow.holds Try.pinned (OpenSpec.upto fnExactFlipGameSpec)

/-- 'laws.FnExactScoreOf', WHERE WHAT IT READS IS OF BULK AT MOST 1048576: true; the input reads as it did. -/
def fnExactScoreOfUptoRow : OpenClaim := { program := "ytoohpflomlhakaa", sum := "db1babc262042ff4000d595a42009ce83954c5364f12f5ae8f339f608dd5ebd8", func := "loop.example/g03205/laws.FnExactScoreOf", spec := "fnExactScoreOf", unfollowed := true, recurses := true, apart := false, narrowed := true }
def FnExactScoreOfUptoSaid : Prop := fnExactScoreOfUptoRow.holds Try.pinned (OpenSpec.upto fnExactScoreOfSpec)

/-- 'laws.FnExactBalanceOf', WHERE WHAT IT READS IS OF BULK AT MOST 1048576: true; the input reads as it did. -/
def fnExactBalanceOfUptoRow : OpenClaim := { program := "ytoohpflomlhakaa", sum := "db1babc262042ff4000d595a42009ce83954c5364f12f5ae8f339f608dd5ebd8", func := "loop.example/g03205/laws.FnExactBalanceOf", spec := "fnExactBalanceOf", unfollowed := true, recurses := true, apart := false, narrowed := true }
def FnExactBalanceOfUptoSaid : Prop := fnExactBalanceOfUptoRow.holds Try.pinned (OpenSpec.upto fnExactBalanceOfSpec)

/-- 'laws.FnExactIsSafe', WHERE WHAT IT READS IS OF BULK AT MOST 1048576: true; the input reads as it did. -/
def fnExactIsSafeUptoRow : OpenClaim := { program := "ytoohpflomlhakaa", sum := "db1babc262042ff4000d595a42009ce83954c5364f12f5ae8f339f608dd5ebd8", func := "loop.example/g03205/laws.FnExactIsSafe", spec := "fnExactIsSafe", unfollowed := true, recurses := true, apart := false, narrowed := true }
def FnExactIsSafeUptoSaid : Prop := fnExactIsSafeUptoRow.holds Try.pinned (OpenSpec.upto fnExactIsSafeSpec)

/-- 'laws.FnExactBestAnswer', WHERE WHAT IT READS IS OF BULK AT MOST 1048576: true; the input reads as it did. -/
def fnExactBestAnswerUptoRow : OpenClaim := { program := "ytoohpflomlhakaa", sum := "db1babc262042ff4000d595a42009ce83954c5364f12f5ae8f339f608dd5ebd8", func := "loop.example/g03205/laws.FnExactBestAnswer", spec := "fnExactBestAnswer", unfollowed := true, recurses := true, apart := false, narrowed := true }
def FnExactBestAnswerUptoSaid : Prop := fnExactBestAnswerUptoRow.holds Try.pinned (OpenSpec.upto fnExactBestAnswerSpec)

/-- 'laws.FnExactKingStep', WHERE WHAT IT READS IS OF BULK AT MOST 1048576: true; the input reads as it did. -/
def fnExactKingStepUptoRow : OpenClaim := { program := "ytoohpflomlhakaa", sum := "db1babc262042ff4000d595a42009ce83954c5364f12f5ae8f339f608dd5ebd8", func := "loop.example/g03205/laws.FnExactKingStep", spec := "fnExactKingStep", unfollowed := true, recurses := true, apart := false, narrowed := true }
def FnExactKingStepUptoSaid : Prop := fnExactKingStepUptoRow.holds Try.pinned (OpenSpec.upto fnExactKingStepSpec)

end Rows
end Go.Proofs.Ytoohpflomlhakaa
