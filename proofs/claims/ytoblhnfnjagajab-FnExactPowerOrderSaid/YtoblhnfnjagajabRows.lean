/-
  No cell of these rows narrows 'for every input' (looked for: loops, veiled, ifaces, maps, wideKeys, modest, calm, conditions, laid).
  DERIVED. THE GIVEN ROWS OF THIS SEAT. 12 by the template 'for every input the law returns true; each argument reads behind the call as it read before'; 0 by the template 'total and deterministic' (their statements: YtoblhnfnjagajabTotals.lean).
  GIVEN WITH THE SEED: the statements are not yours to turn. If you find one false, say at which input.
  Laid BY PROGRAM, IN A SANDBOX (cutbox-rows.mjs): the forced cells as the released guide's own fill.sh prints them over the translation a9c5da6542c05c4d… (all of the seat's roots in one cut). By AI agents, Wed Nov 11 2026. No macro, syntax, notation, axiom, sorry.
-/
import Derived.Test.YtoblhnfnjagajabChecked
import GoSem.Claim
import GoSem.ClaimJoined
import GoSem.ClaimMapViews
import Derived.JoinedTies
import Derived.KernelRfl
namespace Go.Proofs.Ytoblhnfnjagajab
/- THE CELL 'sum', in the pinned program and in every row, IS THE sha256 OF THE DUMP (.gsa) THAT YtoblhnfnjagajabProg.lean LOADS. Nothing in Lean hashes anything: it is a label: what it is worth is what the hold of that sum in a sandbox is worth. -/
noncomputable def Try.pinned : Pinned := { name := "ytoblhnfnjagajab", sum := "a9c5da6542c05c4d5462adb03163eb72b579db0dc92cebd30ac66d92fbc94f62", checked := Try.checked }
namespace Rows
def none {H : Type} : Left H := { results := [], args := [] }

/-- 'laws.FnExactIsSymmetry': WHATEVER THE INPUT: true; the input reads as it did. -/
def fnExactIsSymmetrySpec : ChangeSpec := { name := "fnExactIsSymmetry", fn := fun _ => fun
  | [d1, d2] => { results := [.lit (.bool true)], args := [d1, d2] }
  | _ => none }
def fnExactIsSymmetryRow : OpenClaim := { program := "ytoblhnfnjagajab", sum := "a9c5da6542c05c4d5462adb03163eb72b579db0dc92cebd30ac66d92fbc94f62", func := "loop.example/g03205/laws.FnExactIsSymmetry", spec := "fnExactIsSymmetry", unfollowed := true, recurses := true, apart := false }
def FnExactIsSymmetrySaid : Prop := fnExactIsSymmetryRow.holds Try.pinned (OpenSpec.ofChange fnExactIsSymmetrySpec)

/-- ITS FALSE NEIGHBOUR: 'it returns false'. Refute it at one input. -/
def fnExactIsSymmetryWrong : ChangeSpec := { name := "fnExactIsSymmetry", fn := fun _ => fun
  | [d1, d2] => { results := [.lit (.bool false)], args := [d1, d2] }
  | _ => none }
def FnExactIsSymmetryWrongFalsely : Prop := fnExactIsSymmetryRow.holds Try.pinned (OpenSpec.ofChange fnExactIsSymmetryWrong)

/-- 'laws.FnExactCycleThrough': WHATEVER THE INPUT: true; the input reads as it did. -/
def fnExactCycleThroughSpec : ChangeSpec := { name := "fnExactCycleThrough", fn := fun _ => fun
  | [d1, d2, d3] => { results := [.lit (.bool true)], args := [d1, d2, d3] }
  | _ => none }
def fnExactCycleThroughRow : OpenClaim := { program := "ytoblhnfnjagajab", sum := "a9c5da6542c05c4d5462adb03163eb72b579db0dc92cebd30ac66d92fbc94f62", func := "loop.example/g03205/laws.FnExactCycleThrough", spec := "fnExactCycleThrough", unfollowed := true, recurses := true, apart := false }
def FnExactCycleThroughSaid : Prop := fnExactCycleThroughRow.holds Try.pinned (OpenSpec.ofChange fnExactCycleThroughSpec)

/-- ITS FALSE NEIGHBOUR: 'it returns false'. Refute it at one input. -/
def fnExactCycleThroughWrong : ChangeSpec := { name := "fnExactCycleThrough", fn := fun _ => fun
  | [d1, d2, d3] => { results := [.lit (.bool false)], args := [d1, d2, d3] }
  | _ => none }
def FnExactCycleThroughWrongFalsely : Prop := fnExactCycleThroughRow.holds Try.pinned (OpenSpec.ofChange fnExactCycleThroughWrong)

/-- 'laws.FnExactWayBetween': WHATEVER THE INPUT: true; the input reads as it did. -/
def fnExactWayBetweenSpec : ChangeSpec := { name := "fnExactWayBetween", fn := fun _ => fun
  | [d1, d2, d3] => { results := [.lit (.bool true)], args := [d1, d2, d3] }
  | _ => none }
def fnExactWayBetweenRow : OpenClaim := { program := "ytoblhnfnjagajab", sum := "a9c5da6542c05c4d5462adb03163eb72b579db0dc92cebd30ac66d92fbc94f62", func := "loop.example/g03205/laws.FnExactWayBetween", spec := "fnExactWayBetween", unfollowed := true, recurses := true, apart := false }
def FnExactWayBetweenSaid : Prop := fnExactWayBetweenRow.holds Try.pinned (OpenSpec.ofChange fnExactWayBetweenSpec)

/-- ITS FALSE NEIGHBOUR: 'it returns false'. Refute it at one input. -/
def fnExactWayBetweenWrong : ChangeSpec := { name := "fnExactWayBetween", fn := fun _ => fun
  | [d1, d2, d3] => { results := [.lit (.bool false)], args := [d1, d2, d3] }
  | _ => none }
def FnExactWayBetweenWrongFalsely : Prop := fnExactWayBetweenRow.holds Try.pinned (OpenSpec.ofChange fnExactWayBetweenWrong)

/-- 'laws.FnExactClimbToKing': WHATEVER THE INPUT: true; the input reads as it did. -/
def fnExactClimbToKingSpec : ChangeSpec := { name := "fnExactClimbToKing", fn := fun _ => fun
  | [d1, d2] => { results := [.lit (.bool true)], args := [d1, d2] }
  | _ => none }
def fnExactClimbToKingRow : OpenClaim := { program := "ytoblhnfnjagajab", sum := "a9c5da6542c05c4d5462adb03163eb72b579db0dc92cebd30ac66d92fbc94f62", func := "loop.example/g03205/laws.FnExactClimbToKing", spec := "fnExactClimbToKing", unfollowed := true, recurses := true, apart := false }
def FnExactClimbToKingSaid : Prop := fnExactClimbToKingRow.holds Try.pinned (OpenSpec.ofChange fnExactClimbToKingSpec)

/-- ITS FALSE NEIGHBOUR: 'it returns false'. Refute it at one input. -/
def fnExactClimbToKingWrong : ChangeSpec := { name := "fnExactClimbToKing", fn := fun _ => fun
  | [d1, d2] => { results := [.lit (.bool false)], args := [d1, d2] }
  | _ => none }
def FnExactClimbToKingWrongFalsely : Prop := fnExactClimbToKingRow.holds Try.pinned (OpenSpec.ofChange fnExactClimbToKingWrong)

/-- 'laws.FnExactDefeatScores': WHATEVER THE INPUT: true; the input reads as it did. -/
def fnExactDefeatScoresSpec : ChangeSpec := { name := "fnExactDefeatScores", fn := fun _ => fun
  | [d] => { results := [.lit (.bool true)], args := [d] }
  | _ => none }
def fnExactDefeatScoresRow : OpenClaim := { program := "ytoblhnfnjagajab", sum := "a9c5da6542c05c4d5462adb03163eb72b579db0dc92cebd30ac66d92fbc94f62", func := "loop.example/g03205/laws.FnExactDefeatScores", spec := "fnExactDefeatScores", unfollowed := true, recurses := true, apart := false }
def FnExactDefeatScoresSaid : Prop := fnExactDefeatScoresRow.holds Try.pinned (OpenSpec.ofChange fnExactDefeatScoresSpec)

/-- ITS FALSE NEIGHBOUR: 'it returns false'. Refute it at one input. -/
def fnExactDefeatScoresWrong : ChangeSpec := { name := "fnExactDefeatScores", fn := fun _ => fun
  | [d] => { results := [.lit (.bool false)], args := [d] }
  | _ => none }
def FnExactDefeatScoresWrongFalsely : Prop := fnExactDefeatScoresRow.holds Try.pinned (OpenSpec.ofChange fnExactDefeatScoresWrong)

/-- 'laws.FnExactPartOf': WHATEVER THE INPUT: true; the input reads as it did. -/
def fnExactPartOfSpec : ChangeSpec := { name := "fnExactPartOf", fn := fun _ => fun
  | [d1, d2] => { results := [.lit (.bool true)], args := [d1, d2] }
  | _ => none }
def fnExactPartOfRow : OpenClaim := { program := "ytoblhnfnjagajab", sum := "a9c5da6542c05c4d5462adb03163eb72b579db0dc92cebd30ac66d92fbc94f62", func := "loop.example/g03205/laws.FnExactPartOf", spec := "fnExactPartOf", unfollowed := true, recurses := true, apart := false }
def FnExactPartOfSaid : Prop := fnExactPartOfRow.holds Try.pinned (OpenSpec.ofChange fnExactPartOfSpec)

/-- ITS FALSE NEIGHBOUR: 'it returns false'. Refute it at one input. -/
def fnExactPartOfWrong : ChangeSpec := { name := "fnExactPartOf", fn := fun _ => fun
  | [d1, d2] => { results := [.lit (.bool false)], args := [d1, d2] }
  | _ => none }
def FnExactPartOfWrongFalsely : Prop := fnExactPartOfRow.holds Try.pinned (OpenSpec.ofChange fnExactPartOfWrong)

/-- 'laws.FnExactOrderBy': WHATEVER THE INPUT: true; the input reads as it did. -/
def fnExactOrderBySpec : ChangeSpec := { name := "fnExactOrderBy", fn := fun _ => fun
  | [d] => { results := [.lit (.bool true)], args := [d] }
  | _ => none }
def fnExactOrderByRow : OpenClaim := { program := "ytoblhnfnjagajab", sum := "a9c5da6542c05c4d5462adb03163eb72b579db0dc92cebd30ac66d92fbc94f62", func := "loop.example/g03205/laws.FnExactOrderBy", spec := "fnExactOrderBy", unfollowed := true, recurses := true, apart := false }
def FnExactOrderBySaid : Prop := fnExactOrderByRow.holds Try.pinned (OpenSpec.ofChange fnExactOrderBySpec)

/-- ITS FALSE NEIGHBOUR: 'it returns false'. Refute it at one input. -/
def fnExactOrderByWrong : ChangeSpec := { name := "fnExactOrderBy", fn := fun _ => fun
  | [d] => { results := [.lit (.bool false)], args := [d] }
  | _ => none }
def FnExactOrderByWrongFalsely : Prop := fnExactOrderByRow.holds Try.pinned (OpenSpec.ofChange fnExactOrderByWrong)

/-- 'laws.FnExactLevelsOf': WHATEVER THE INPUT: true; the input reads as it did. -/
def fnExactLevelsOfSpec : ChangeSpec := { name := "fnExactLevelsOf", fn := fun _ => fun
  | [d] => { results := [.lit (.bool true)], args := [d] }
  | _ => none }
def fnExactLevelsOfRow : OpenClaim := { program := "ytoblhnfnjagajab", sum := "a9c5da6542c05c4d5462adb03163eb72b579db0dc92cebd30ac66d92fbc94f62", func := "loop.example/g03205/laws.FnExactLevelsOf", spec := "fnExactLevelsOf", unfollowed := true, recurses := true, apart := false }
def FnExactLevelsOfSaid : Prop := fnExactLevelsOfRow.holds Try.pinned (OpenSpec.ofChange fnExactLevelsOfSpec)

/-- ITS FALSE NEIGHBOUR: 'it returns false'. Refute it at one input. -/
def fnExactLevelsOfWrong : ChangeSpec := { name := "fnExactLevelsOf", fn := fun _ => fun
  | [d] => { results := [.lit (.bool false)], args := [d] }
  | _ => none }
def FnExactLevelsOfWrongFalsely : Prop := fnExactLevelsOfRow.holds Try.pinned (OpenSpec.ofChange fnExactLevelsOfWrong)

/-- 'laws.FnExactPowerOrder': WHATEVER THE INPUT: true; the input reads as it did. -/
def fnExactPowerOrderSpec : ChangeSpec := { name := "fnExactPowerOrder", fn := fun _ => fun
  | [d1, d2] => { results := [.lit (.bool true)], args := [d1, d2] }
  | _ => none }
def fnExactPowerOrderRow : OpenClaim := { program := "ytoblhnfnjagajab", sum := "a9c5da6542c05c4d5462adb03163eb72b579db0dc92cebd30ac66d92fbc94f62", func := "loop.example/g03205/laws.FnExactPowerOrder", spec := "fnExactPowerOrder", unfollowed := true, recurses := true, apart := false }
def FnExactPowerOrderSaid : Prop := fnExactPowerOrderRow.holds Try.pinned (OpenSpec.ofChange fnExactPowerOrderSpec)

/-- ITS FALSE NEIGHBOUR: 'it returns false'. Refute it at one input. -/
def fnExactPowerOrderWrong : ChangeSpec := { name := "fnExactPowerOrder", fn := fun _ => fun
  | [d1, d2] => { results := [.lit (.bool false)], args := [d1, d2] }
  | _ => none }
def FnExactPowerOrderWrongFalsely : Prop := fnExactPowerOrderRow.holds Try.pinned (OpenSpec.ofChange fnExactPowerOrderWrong)

/-- 'laws.FnExactCountSymmetries': WHATEVER THE INPUT: true; the input reads as it did. -/
def fnExactCountSymmetriesSpec : ChangeSpec := { name := "fnExactCountSymmetries", fn := fun _ => fun
  | [d] => { results := [.lit (.bool true)], args := [d] }
  | _ => none }
def fnExactCountSymmetriesRow : OpenClaim := { program := "ytoblhnfnjagajab", sum := "a9c5da6542c05c4d5462adb03163eb72b579db0dc92cebd30ac66d92fbc94f62", func := "loop.example/g03205/laws.FnExactCountSymmetries", spec := "fnExactCountSymmetries", unfollowed := true, recurses := true, apart := false }
def FnExactCountSymmetriesSaid : Prop := fnExactCountSymmetriesRow.holds Try.pinned (OpenSpec.ofChange fnExactCountSymmetriesSpec)

/-- ITS FALSE NEIGHBOUR: 'it returns false'. Refute it at one input. -/
def fnExactCountSymmetriesWrong : ChangeSpec := { name := "fnExactCountSymmetries", fn := fun _ => fun
  | [d] => { results := [.lit (.bool false)], args := [d] }
  | _ => none }
def FnExactCountSymmetriesWrongFalsely : Prop := fnExactCountSymmetriesRow.holds Try.pinned (OpenSpec.ofChange fnExactCountSymmetriesWrong)

/-- 'laws.FnExactAreLike': WHATEVER THE INPUT: true; the input reads as it did. -/
def fnExactAreLikeSpec : ChangeSpec := { name := "fnExactAreLike", fn := fun _ => fun
  | [d1, d2] => { results := [.lit (.bool true)], args := [d1, d2] }
  | _ => none }
def fnExactAreLikeRow : OpenClaim := { program := "ytoblhnfnjagajab", sum := "a9c5da6542c05c4d5462adb03163eb72b579db0dc92cebd30ac66d92fbc94f62", func := "loop.example/g03205/laws.FnExactAreLike", spec := "fnExactAreLike", unfollowed := true, recurses := true, apart := false }
def FnExactAreLikeSaid : Prop := fnExactAreLikeRow.holds Try.pinned (OpenSpec.ofChange fnExactAreLikeSpec)

/-- ITS FALSE NEIGHBOUR: 'it returns false'. Refute it at one input. -/
def fnExactAreLikeWrong : ChangeSpec := { name := "fnExactAreLike", fn := fun _ => fun
  | [d1, d2] => { results := [.lit (.bool false)], args := [d1, d2] }
  | _ => none }
def FnExactAreLikeWrongFalsely : Prop := fnExactAreLikeRow.holds Try.pinned (OpenSpec.ofChange fnExactAreLikeWrong)

/-- 'laws.FnExactLeastName': WHATEVER THE INPUT: true; the input reads as it did. -/
def fnExactLeastNameSpec : ChangeSpec := { name := "fnExactLeastName", fn := fun _ => fun
  | [d] => { results := [.lit (.bool true)], args := [d] }
  | _ => none }
def fnExactLeastNameRow : OpenClaim := { program := "ytoblhnfnjagajab", sum := "a9c5da6542c05c4d5462adb03163eb72b579db0dc92cebd30ac66d92fbc94f62", func := "loop.example/g03205/laws.FnExactLeastName", spec := "fnExactLeastName", unfollowed := true, recurses := true, apart := false }
def FnExactLeastNameSaid : Prop := fnExactLeastNameRow.holds Try.pinned (OpenSpec.ofChange fnExactLeastNameSpec)

/-- ITS FALSE NEIGHBOUR: 'it returns false'. Refute it at one input. -/
def fnExactLeastNameWrong : ChangeSpec := { name := "fnExactLeastName", fn := fun _ => fun
  | [d] => { results := [.lit (.bool false)], args := [d] }
  | _ => none }
def FnExactLeastNameWrongFalsely : Prop := fnExactLeastNameRow.holds Try.pinned (OpenSpec.ofChange fnExactLeastNameWrong)

/- THE SECOND FORM. 'bulk': how many values and letters a reading holds, each counted each time it is reached (what is shared counts as often as it is met; a slice's spare places count too). A statement '..UptoSaid' is the law's where the arguments, and the package variables that the reading takes, are together of bulk at most 1048576: NARROWER than '..Said'. Prove '..Said' where nothing that the law and all that it calls make is longer than what came in: it says more and counts as full. Else prove '..UptoSaid'. A law counts once. -/
mutual
def uptoBulk {H : Type} : DataW H → Nat
  | .lit (.string bytes) => bytes.length + 1
  | .lit _ => 1
  | .nil => 1
  | .ptr d => uptoBulk d + 1
  | .slice elems spare => uptoBulkAll elems + uptoBulkAll spare + 1
  | .agg parts => uptoBulkAll parts + 1
  | .iface _ d => uptoBulk d + 1
  | .map entries => uptoBulkEntries entries + 1
  | .held _ => 1
def uptoBulkAll {H : Type} : List (DataW H) → Nat
  | [] => 0
  | d :: r => uptoBulk d + uptoBulkAll r
def uptoBulkEntries {H : Type} : List (Lit × DataW H) → Nat
  | [] => 0
  | x :: r => uptoBulkEntry x + uptoBulkEntries r
def uptoBulkEntry {H : Type} : Lit × DataW H → Nat
  | (.string bytes, d) => bytes.length + uptoBulk d + 1
  | (_, d) => uptoBulk d + 1
 end
def uptoSmall : (H : Type) → List (DataW H) → Bool := fun _ ds => decide (uptoBulkAll ds ≤ 1048576)
def OpenSpec.upto (s : _root_.Go.ChangeSpec) : _root_.Go.OpenSpec := { _root_.Go.OpenSpec.ofChange s with cond := some uptoSmall }

/-- 'laws.FnExactIsSymmetry', WHERE WHAT IT READS IS OF BULK AT MOST 1048576: true; the input reads as it did. -/
def fnExactIsSymmetryUptoRow : OpenClaim := { program := "ytoblhnfnjagajab", sum := "a9c5da6542c05c4d5462adb03163eb72b579db0dc92cebd30ac66d92fbc94f62", func := "loop.example/g03205/laws.FnExactIsSymmetry", spec := "fnExactIsSymmetry", unfollowed := true, recurses := true, apart := false, narrowed := true }
def FnExactIsSymmetryUptoSaid : Prop := fnExactIsSymmetryUptoRow.holds Try.pinned (OpenSpec.upto fnExactIsSymmetrySpec)

/-- 'laws.FnExactCycleThrough', WHERE WHAT IT READS IS OF BULK AT MOST 1048576: true; the input reads as it did. -/
def fnExactCycleThroughUptoRow : OpenClaim := { program := "ytoblhnfnjagajab", sum := "a9c5da6542c05c4d5462adb03163eb72b579db0dc92cebd30ac66d92fbc94f62", func := "loop.example/g03205/laws.FnExactCycleThrough", spec := "fnExactCycleThrough", unfollowed := true, recurses := true, apart := false, narrowed := true }
def FnExactCycleThroughUptoSaid : Prop := fnExactCycleThroughUptoRow.holds Try.pinned (OpenSpec.upto fnExactCycleThroughSpec)

/-- 'laws.FnExactWayBetween', WHERE WHAT IT READS IS OF BULK AT MOST 1048576: true; the input reads as it did. -/
def fnExactWayBetweenUptoRow : OpenClaim := { program := "ytoblhnfnjagajab", sum := "a9c5da6542c05c4d5462adb03163eb72b579db0dc92cebd30ac66d92fbc94f62", func := "loop.example/g03205/laws.FnExactWayBetween", spec := "fnExactWayBetween", unfollowed := true, recurses := true, apart := false, narrowed := true }
def FnExactWayBetweenUptoSaid : Prop := fnExactWayBetweenUptoRow.holds Try.pinned (OpenSpec.upto fnExactWayBetweenSpec)

/-- 'laws.FnExactClimbToKing', WHERE WHAT IT READS IS OF BULK AT MOST 1048576: true; the input reads as it did. -/
def fnExactClimbToKingUptoRow : OpenClaim := { program := "ytoblhnfnjagajab", sum := "a9c5da6542c05c4d5462adb03163eb72b579db0dc92cebd30ac66d92fbc94f62", func := "loop.example/g03205/laws.FnExactClimbToKing", spec := "fnExactClimbToKing", unfollowed := true, recurses := true, apart := false, narrowed := true }
def FnExactClimbToKingUptoSaid : Prop := fnExactClimbToKingUptoRow.holds Try.pinned (OpenSpec.upto fnExactClimbToKingSpec)

/-- 'laws.FnExactDefeatScores', WHERE WHAT IT READS IS OF BULK AT MOST 1048576: true; the input reads as it did. -/
def fnExactDefeatScoresUptoRow : OpenClaim := { program := "ytoblhnfnjagajab", sum := "a9c5da6542c05c4d5462adb03163eb72b579db0dc92cebd30ac66d92fbc94f62", func := "loop.example/g03205/laws.FnExactDefeatScores", spec := "fnExactDefeatScores", unfollowed := true, recurses := true, apart := false, narrowed := true }
def FnExactDefeatScoresUptoSaid : Prop := fnExactDefeatScoresUptoRow.holds Try.pinned (OpenSpec.upto fnExactDefeatScoresSpec)

/-- 'laws.FnExactPartOf', WHERE WHAT IT READS IS OF BULK AT MOST 1048576: true; the input reads as it did. -/
def fnExactPartOfUptoRow : OpenClaim := { program := "ytoblhnfnjagajab", sum := "a9c5da6542c05c4d5462adb03163eb72b579db0dc92cebd30ac66d92fbc94f62", func := "loop.example/g03205/laws.FnExactPartOf", spec := "fnExactPartOf", unfollowed := true, recurses := true, apart := false, narrowed := true }
def FnExactPartOfUptoSaid : Prop := fnExactPartOfUptoRow.holds Try.pinned (OpenSpec.upto fnExactPartOfSpec)

/-- 'laws.FnExactOrderBy', WHERE WHAT IT READS IS OF BULK AT MOST 1048576: true; the input reads as it did. -/
def fnExactOrderByUptoRow : OpenClaim := { program := "ytoblhnfnjagajab", sum := "a9c5da6542c05c4d5462adb03163eb72b579db0dc92cebd30ac66d92fbc94f62", func := "loop.example/g03205/laws.FnExactOrderBy", spec := "fnExactOrderBy", unfollowed := true, recurses := true, apart := false, narrowed := true }
def FnExactOrderByUptoSaid : Prop := fnExactOrderByUptoRow.holds Try.pinned (OpenSpec.upto fnExactOrderBySpec)

/-- 'laws.FnExactLevelsOf', WHERE WHAT IT READS IS OF BULK AT MOST 1048576: true; the input reads as it did. -/
def fnExactLevelsOfUptoRow : OpenClaim := { program := "ytoblhnfnjagajab", sum := "a9c5da6542c05c4d5462adb03163eb72b579db0dc92cebd30ac66d92fbc94f62", func := "loop.example/g03205/laws.FnExactLevelsOf", spec := "fnExactLevelsOf", unfollowed := true, recurses := true, apart := false, narrowed := true }
def FnExactLevelsOfUptoSaid : Prop := fnExactLevelsOfUptoRow.holds Try.pinned (OpenSpec.upto fnExactLevelsOfSpec)

/-- 'laws.FnExactPowerOrder', WHERE WHAT IT READS IS OF BULK AT MOST 1048576: true; the input reads as it did. -/
def fnExactPowerOrderUptoRow : OpenClaim := { program := "ytoblhnfnjagajab", sum := "a9c5da6542c05c4d5462adb03163eb72b579db0dc92cebd30ac66d92fbc94f62", func := "loop.example/g03205/laws.FnExactPowerOrder", spec := "fnExactPowerOrder", unfollowed := true, recurses := true, apart := false, narrowed := true }
def FnExactPowerOrderUptoSaid : Prop := fnExactPowerOrderUptoRow.holds Try.pinned (OpenSpec.upto fnExactPowerOrderSpec)

/-- 'laws.FnExactCountSymmetries', WHERE WHAT IT READS IS OF BULK AT MOST 1048576: true; the input reads as it did. -/
def fnExactCountSymmetriesUptoRow : OpenClaim := { program := "ytoblhnfnjagajab", sum := "a9c5da6542c05c4d5462adb03163eb72b579db0dc92cebd30ac66d92fbc94f62", func := "loop.example/g03205/laws.FnExactCountSymmetries", spec := "fnExactCountSymmetries", unfollowed := true, recurses := true, apart := false, narrowed := true }
def FnExactCountSymmetriesUptoSaid : Prop := fnExactCountSymmetriesUptoRow.holds Try.pinned (OpenSpec.upto fnExactCountSymmetriesSpec)

/-- 'laws.FnExactAreLike', WHERE WHAT IT READS IS OF BULK AT MOST 1048576: true; the input reads as it did. -/
def fnExactAreLikeUptoRow : OpenClaim := { program := "ytoblhnfnjagajab", sum := "a9c5da6542c05c4d5462adb03163eb72b579db0dc92cebd30ac66d92fbc94f62", func := "loop.example/g03205/laws.FnExactAreLike", spec := "fnExactAreLike", unfollowed := true, recurses := true, apart := false, narrowed := true }
def FnExactAreLikeUptoSaid : Prop := fnExactAreLikeUptoRow.holds Try.pinned (OpenSpec.upto fnExactAreLikeSpec)

/-- 'laws.FnExactLeastName', WHERE WHAT IT READS IS OF BULK AT MOST 1048576: true; the input reads as it did. -/
def fnExactLeastNameUptoRow : OpenClaim := { program := "ytoblhnfnjagajab", sum := "a9c5da6542c05c4d5462adb03163eb72b579db0dc92cebd30ac66d92fbc94f62", func := "loop.example/g03205/laws.FnExactLeastName", spec := "fnExactLeastName", unfollowed := true, recurses := true, apart := false, narrowed := true }
def FnExactLeastNameUptoSaid : Prop := fnExactLeastNameUptoRow.holds Try.pinned (OpenSpec.upto fnExactLeastNameSpec)

end Rows
end Go.Proofs.Ytoblhnfnjagajab
