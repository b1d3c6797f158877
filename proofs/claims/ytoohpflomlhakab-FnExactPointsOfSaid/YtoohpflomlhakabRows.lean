/-
  No cell of these rows narrows 'for every input' (looked for: loops, veiled, ifaces, maps, wideKeys, modest, calm, conditions, laid).
  DERIVED. THE GIVEN ROWS OF THIS SEAT. 10 by the template 'for every input the law returns true; each argument reads behind the call as it read before'; 0 by the template 'total and deterministic' (their statements: YtoohpflomlhakabTotals.lean).
  GIVEN WITH THE SEED: the statements are not yours to turn. If you find one false, say at which input.
  Laid BY PROGRAM, IN A SANDBOX (cutbox-rows.mjs): the forced cells as the released guide's own fill.sh prints them over the translation 08a3b242bf666a17… (all of the seat's roots in one cut). By AI agents, Wed Nov 11 2026. No macro, syntax, notation, axiom, sorry.
-/
import Derived.Test.YtoohpflomlhakabChecked
import GoSem.Claim
import GoSem.ClaimJoined
import GoSem.ClaimMapViews
import Derived.JoinedTies
import Derived.KernelRfl
namespace Go.Proofs.Ytoohpflomlhakab
/- THE CELL 'sum', in the pinned program and in every row, IS THE sha256 OF THE DUMP (.gsa) THAT YtoohpflomlhakabProg.lean LOADS. Nothing in Lean hashes anything: it is a label: what it is worth is what the hold of that sum in a sandbox is worth. -/
noncomputable def Try.pinned : Pinned := { name := "ytoohpflomlhakab", sum := "08a3b242bf666a173361eb90ee83a4b683373fa5e402ca5517138b838136e86e", checked := Try.checked }
namespace Rows
def none {H : Type} : Left H := { results := [], args := [] }

/-- 'laws.FnExactMeetingsOf': WHATEVER THE INPUT: true; the input reads as it did. -/
def fnExactMeetingsOfSpec : ChangeSpec := { name := "fnExactMeetingsOf", fn := fun _ => fun
  | [d1, d2, d3] => { results := [.lit (.bool true)], args := [d1, d2, d3] }
  | _ => none }
def fnExactMeetingsOfRow : OpenClaim := { program := "ytoohpflomlhakab", sum := "08a3b242bf666a173361eb90ee83a4b683373fa5e402ca5517138b838136e86e", func := "loop.example/g03205/laws.FnExactMeetingsOf", spec := "fnExactMeetingsOf", unfollowed := true, recurses := true, apart := false }
def FnExactMeetingsOfSaid : Prop := fnExactMeetingsOfRow.holds Try.pinned (OpenSpec.ofChange fnExactMeetingsOfSpec)

/-- ITS FALSE NEIGHBOUR: 'it returns false'. Refute it at one input. -/
def fnExactMeetingsOfWrong : ChangeSpec := { name := "fnExactMeetingsOf", fn := fun _ => fun
  | [d1, d2, d3] => { results := [.lit (.bool false)], args := [d1, d2, d3] }
  | _ => none }
def FnExactMeetingsOfWrongFalsely : Prop := fnExactMeetingsOfRow.holds Try.pinned (OpenSpec.ofChange fnExactMeetingsOfWrong)

/-- 'laws.FnExactGoalsOf': WHATEVER THE INPUT: true; the input reads as it did. -/
def fnExactGoalsOfSpec : ChangeSpec := { name := "fnExactGoalsOf", fn := fun _ => fun
  | [d1, d2] => { results := [.lit (.bool true)], args := [d1, d2] }
  | _ => none }
def fnExactGoalsOfRow : OpenClaim := { program := "ytoohpflomlhakab", sum := "08a3b242bf666a173361eb90ee83a4b683373fa5e402ca5517138b838136e86e", func := "loop.example/g03205/laws.FnExactGoalsOf", spec := "fnExactGoalsOf", unfollowed := true, recurses := true, apart := false }
def FnExactGoalsOfSaid : Prop := fnExactGoalsOfRow.holds Try.pinned (OpenSpec.ofChange fnExactGoalsOfSpec)

/-- ITS FALSE NEIGHBOUR: 'it returns false'. Refute it at one input. -/
def fnExactGoalsOfWrong : ChangeSpec := { name := "fnExactGoalsOf", fn := fun _ => fun
  | [d1, d2] => { results := [.lit (.bool false)], args := [d1, d2] }
  | _ => none }
def FnExactGoalsOfWrongFalsely : Prop := fnExactGoalsOfRow.holds Try.pinned (OpenSpec.ofChange fnExactGoalsOfWrong)

/-- 'laws.FnExactAmongClubs': WHATEVER THE INPUT: true; the input reads as it did. -/
def fnExactAmongClubsSpec : ChangeSpec := { name := "fnExactAmongClubs", fn := fun _ => fun
  | [d1, d2] => { results := [.lit (.bool true)], args := [d1, d2] }
  | _ => none }
def fnExactAmongClubsRow : OpenClaim := { program := "ytoohpflomlhakab", sum := "08a3b242bf666a173361eb90ee83a4b683373fa5e402ca5517138b838136e86e", func := "loop.example/g03205/laws.FnExactAmongClubs", spec := "fnExactAmongClubs", unfollowed := true, recurses := true, apart := false }
def FnExactAmongClubsSaid : Prop := fnExactAmongClubsRow.holds Try.pinned (OpenSpec.ofChange fnExactAmongClubsSpec)

/-- ITS FALSE NEIGHBOUR: 'it returns false'. Refute it at one input. -/
def fnExactAmongClubsWrong : ChangeSpec := { name := "fnExactAmongClubs", fn := fun _ => fun
  | [d1, d2] => { results := [.lit (.bool false)], args := [d1, d2] }
  | _ => none }
def FnExactAmongClubsWrongFalsely : Prop := fnExactAmongClubsRow.holds Try.pinned (OpenSpec.ofChange fnExactAmongClubsWrong)

/-- 'laws.FnExactAddResult': WHATEVER THE INPUT: true; the input reads as it did. -/
def fnExactAddResultSpec : ChangeSpec := { name := "fnExactAddResult", fn := fun _ => fun
  | [d1, d2] => { results := [.lit (.bool true)], args := [d1, d2] }
  | _ => none }
def fnExactAddResultRow : OpenClaim := { program := "ytoohpflomlhakab", sum := "08a3b242bf666a173361eb90ee83a4b683373fa5e402ca5517138b838136e86e", func := "loop.example/g03205/laws.FnExactAddResult", spec := "fnExactAddResult", unfollowed := true, recurses := true, apart := false }
def FnExactAddResultSaid : Prop := fnExactAddResultRow.holds Try.pinned (OpenSpec.ofChange fnExactAddResultSpec)

/-- ITS FALSE NEIGHBOUR: 'it returns false'. Refute it at one input. -/
def fnExactAddResultWrong : ChangeSpec := { name := "fnExactAddResult", fn := fun _ => fun
  | [d1, d2] => { results := [.lit (.bool false)], args := [d1, d2] }
  | _ => none }
def FnExactAddResultWrongFalsely : Prop := fnExactAddResultRow.holds Try.pinned (OpenSpec.ofChange fnExactAddResultWrong)

/-- 'laws.FnExactRecordOf': WHATEVER THE INPUT: true; the input reads as it did. -/
def fnExactRecordOfSpec : ChangeSpec := { name := "fnExactRecordOf", fn := fun _ => fun
  | [d1, d2] => { results := [.lit (.bool true)], args := [d1, d2] }
  | _ => none }
def fnExactRecordOfRow : OpenClaim := { program := "ytoohpflomlhakab", sum := "08a3b242bf666a173361eb90ee83a4b683373fa5e402ca5517138b838136e86e", func := "loop.example/g03205/laws.FnExactRecordOf", spec := "fnExactRecordOf", unfollowed := true, recurses := true, apart := false }
def FnExactRecordOfSaid : Prop := fnExactRecordOfRow.holds Try.pinned (OpenSpec.ofChange fnExactRecordOfSpec)

/-- ITS FALSE NEIGHBOUR: 'it returns false'. Refute it at one input. -/
def fnExactRecordOfWrong : ChangeSpec := { name := "fnExactRecordOf", fn := fun _ => fun
  | [d1, d2] => { results := [.lit (.bool false)], args := [d1, d2] }
  | _ => none }
def FnExactRecordOfWrongFalsely : Prop := fnExactRecordOfRow.holds Try.pinned (OpenSpec.ofChange fnExactRecordOfWrong)

/-- 'laws.FnExactUnbeatenIn': WHATEVER THE INPUT: true; the input reads as it did. -/
def fnExactUnbeatenInSpec : ChangeSpec := { name := "fnExactUnbeatenIn", fn := fun _ => fun
  | [d] => { results := [.lit (.bool true)], args := [d] }
  | _ => none }
def fnExactUnbeatenInRow : OpenClaim := { program := "ytoohpflomlhakab", sum := "08a3b242bf666a173361eb90ee83a4b683373fa5e402ca5517138b838136e86e", func := "loop.example/g03205/laws.FnExactUnbeatenIn", spec := "fnExactUnbeatenIn", unfollowed := true, recurses := true, apart := false }
def FnExactUnbeatenInSaid : Prop := fnExactUnbeatenInRow.holds Try.pinned (OpenSpec.ofChange fnExactUnbeatenInSpec)

/-- ITS FALSE NEIGHBOUR: 'it returns false'. Refute it at one input. -/
def fnExactUnbeatenInWrong : ChangeSpec := { name := "fnExactUnbeatenIn", fn := fun _ => fun
  | [d] => { results := [.lit (.bool false)], args := [d] }
  | _ => none }
def FnExactUnbeatenInWrongFalsely : Prop := fnExactUnbeatenInRow.holds Try.pinned (OpenSpec.ofChange fnExactUnbeatenInWrong)

/-- 'laws.FnExactPointsOf': WHATEVER THE INPUT: true; the input reads as it did. -/
def fnExactPointsOfSpec : ChangeSpec := { name := "fnExactPointsOf", fn := fun _ => fun
  | [d] => { results := [.lit (.bool true)], args := [d] }
  | _ => none }
def fnExactPointsOfRow : OpenClaim := { program := "ytoohpflomlhakab", sum := "08a3b242bf666a173361eb90ee83a4b683373fa5e402ca5517138b838136e86e", func := "loop.example/g03205/laws.FnExactPointsOf", spec := "fnExactPointsOf", unfollowed := true, recurses := true, apart := false }
def FnExactPointsOfSaid : Prop := fnExactPointsOfRow.holds Try.pinned (OpenSpec.ofChange fnExactPointsOfSpec)

/-- ITS FALSE NEIGHBOUR: 'it returns false'. Refute it at one input. -/
def fnExactPointsOfWrong : ChangeSpec := { name := "fnExactPointsOf", fn := fun _ => fun
  | [d] => { results := [.lit (.bool false)], args := [d] }
  | _ => none }
def FnExactPointsOfWrongFalsely : Prop := fnExactPointsOfRow.holds Try.pinned (OpenSpec.ofChange fnExactPointsOfWrong)

/-- 'laws.FnExactRestOf': WHATEVER THE INPUT: true; the input reads as it did. -/
def fnExactRestOfSpec : ChangeSpec := { name := "fnExactRestOf", fn := fun _ => fun
  | [d1, d2] => { results := [.lit (.bool true)], args := [d1, d2] }
  | _ => none }
def fnExactRestOfRow : OpenClaim := { program := "ytoohpflomlhakab", sum := "08a3b242bf666a173361eb90ee83a4b683373fa5e402ca5517138b838136e86e", func := "loop.example/g03205/laws.FnExactRestOf", spec := "fnExactRestOf", unfollowed := true, recurses := true, apart := false }
def FnExactRestOfSaid : Prop := fnExactRestOfRow.holds Try.pinned (OpenSpec.ofChange fnExactRestOfSpec)

/-- ITS FALSE NEIGHBOUR: 'it returns false'. Refute it at one input. -/
def fnExactRestOfWrong : ChangeSpec := { name := "fnExactRestOf", fn := fun _ => fun
  | [d1, d2] => { results := [.lit (.bool false)], args := [d1, d2] }
  | _ => none }
def FnExactRestOfWrongFalsely : Prop := fnExactRestOfRow.holds Try.pinned (OpenSpec.ofChange fnExactRestOfWrong)

/-- 'laws.FnExactTableOf': WHATEVER THE INPUT: true; the input reads as it did. -/
def fnExactTableOfSpec : ChangeSpec := { name := "fnExactTableOf", fn := fun _ => fun
  | [d] => { results := [.lit (.bool true)], args := [d] }
  | _ => none }
def fnExactTableOfRow : OpenClaim := { program := "ytoohpflomlhakab", sum := "08a3b242bf666a173361eb90ee83a4b683373fa5e402ca5517138b838136e86e", func := "loop.example/g03205/laws.FnExactTableOf", spec := "fnExactTableOf", unfollowed := true, recurses := true, apart := false }
def FnExactTableOfSaid : Prop := fnExactTableOfRow.holds Try.pinned (OpenSpec.ofChange fnExactTableOfSpec)

/-- ITS FALSE NEIGHBOUR: 'it returns false'. Refute it at one input. -/
def fnExactTableOfWrong : ChangeSpec := { name := "fnExactTableOf", fn := fun _ => fun
  | [d] => { results := [.lit (.bool false)], args := [d] }
  | _ => none }
def FnExactTableOfWrongFalsely : Prop := fnExactTableOfRow.holds Try.pinned (OpenSpec.ofChange fnExactTableOfWrong)

/-- 'laws.FnLeagues': WHATEVER THE INPUT: true; the input reads as it did. -/
def fnLeaguesSpec : ChangeSpec := { name := "fnLeagues", fn := fun _ => fun
  | [d] => { results := [.lit (.bool true)], args := [d] }
  | _ => none }
def fnLeaguesRow : OpenClaim := { program := "ytoohpflomlhakab", sum := "08a3b242bf666a173361eb90ee83a4b683373fa5e402ca5517138b838136e86e", func := "loop.example/g03205/laws.FnLeagues", spec := "fnLeagues", unfollowed := true, recurses := true, apart := false }
def FnLeaguesSaid : Prop := fnLeaguesRow.holds Try.pinned (OpenSpec.ofChange fnLeaguesSpec)

/-- ITS FALSE NEIGHBOUR: 'it returns false'. Refute it at one input. -/
def fnLeaguesWrong : ChangeSpec := { name := "fnLeagues", fn := fun _ => fun
  | [d] => { results := [.lit (.bool false)], args := [d] }
  | _ => none }
def FnLeaguesWrongFalsely : Prop := fnLeaguesRow.holds Try.pinned (OpenSpec.ofChange fnLeaguesWrong)

/- THE SECOND FORM. 'bulk': how many values and letters a reading holds, each counted each time it is reached (what is shared counts as often as it is met; a slice's spare places count too). A statement '..UptoSaid' is the law's where the arguments, and the package variables that the reading takes, are together of bulk at most 1048576: NARROWER than '..Said'. Prove '..Said' where nothing that the law and all that it calls make is longer than what came in: it says more and counts as full. Else prove '..UptoSaid'. A law counts once. -/
mutual
def uptoBulk {H : Type} : DataW H → Nat
  | .lit (.string bytes) => bytes.length + 1
  | .lit _ => 1
  | .nil => 1
  | .ptr d => uptoBulk d + 1
  | .slice elems spare => uptoBulkAll elems + uptoBulkAll spare + 1
  | .agg parts => uptoBulkAll parts + 1
  | .iface _ d => uptoBulk d + 1
  | .map entries => uptoBulkEntries entries + 1
  | .held _ => 1
def uptoBulkAll {H : Type} : List (DataW H) → Nat
  | [] => 0
  | d :: r => uptoBulk d + uptoBulkAll r
def uptoBulkEntries {H : Type} : List (Lit × DataW H) → Nat
  | [] => 0
  | x :: r => uptoBulkEntry x + uptoBulkEntries r
def uptoBulkEntry {H : Type} : Lit × DataW H → Nat
  | (.string bytes, d) => bytes.length + uptoBulk d + 1
  | (_, d) => uptoBulk d + 1
 end
def uptoSmall : (H : Type) → List (DataW H) → Bool := fun _ ds => decide (uptoBulkAll ds ≤ 1048576)
def OpenSpec.upto (s : _root_.Go.ChangeSpec) : _root_.Go.OpenSpec := { _root_.Go.OpenSpec.ofChange s with cond := some uptoSmall }

/-- 'laws.FnExactMeetingsOf', WHERE WHAT IT READS IS OF BULK AT MOST 1048576: true; the input reads as it did. -/
def fnExactMeetingsOfUptoRow : OpenClaim := { program := "ytoohpflomlhakab", sum := "08a3b242bf666a173361eb90ee83a4b683373fa5e402ca5517138b838136e86e", func := "loop.example/g03205/laws.FnExactMeetingsOf", spec := "fnExactMeetingsOf", unfollowed := true, recurses := true, apart := false, narrowed := true }
def FnExactMeetingsOfUptoSaid : Prop := fnExactMeetingsOfUptoRow.holds Try.pinned (OpenSpec.upto fnExactMeetingsOfSpec)

/-- 'laws.FnExactGoalsOf', WHERE WHAT IT READS IS OF BULK AT MOST 1048576: true; the input reads as it did. -/
def fnExactGoalsOfUptoRow : OpenClaim := { program := "ytoohpflomlhakab", sum := "08a3b242bf666a173361eb90ee83a4b683373fa5e402ca5517138b838136e86e", func := "loop.example/g03205/laws.FnExactGoalsOf", spec := "fnExactGoalsOf", unfollowed := true, recurses := true, apart := false, narrowed := true }
def FnExactGoalsOfUptoSaid : Prop := fnExactGoalsOfUptoRow.holds Try.pinned (OpenSpec.upto fnExactGoalsOfSpec)

/-- 'laws.FnExactAmongClubs', WHERE WHAT IT READS IS OF BULK AT MOST 1048576: true; the input reads as it did. -/
def fnExactAmongClubsUptoRow : OpenClaim := { program := "ytoohpflomlhakab", sum := "08a3b242bf666a173361eb90ee83a4b683373fa5e402ca5517138b838136e86e", func := "loop.example/g03205/laws.FnExactAmongClubs", spec := "fnExactAmongClubs", unfollowed := true, recurses := true, apart := false, narrowed := true }
def FnExactAmongClubsUptoSaid : Prop := fnExactAmongClubsUptoRow.holds Try.pinned (OpenSpec.upto fnExactAmongClubsSpec)

/-- 'laws.FnExactAddResult', WHERE WHAT IT READS IS OF BULK AT MOST 1048576: true; the input reads as it did. -/
def fnExactAddResultUptoRow : OpenClaim := { program := "ytoohpflomlhakab", sum := "08a3b242bf666a173361eb90ee83a4b683373fa5e402ca5517138b838136e86e", func := "loop.example/g03205/laws.FnExactAddResult", spec := "fnExactAddResult", unfollowed := true, recurses := true, apart := false, narrowed := true }
def FnExactAddResultUptoSaid : Prop := fnExactAddResultUptoRow.holds Try.pinned (OpenSpec.upto fnExactAddResultSpec)

/-- 'laws.FnExactRecordOf', WHERE WHAT IT READS IS OF BULK AT MOST 1048576: true; the input reads as it did. -/
def fnExactRecordOfUptoRow : OpenClaim := { program := "ytoohpflomlhakab", sum := "08a3b242bf666a173361eb90ee83a4b683373fa5e402ca5517138b838136e86e", func := "loop.example/g03205/laws.FnExactRecordOf", spec := "fnExactRecordOf", unfollowed := true, recurses := true, apart := false, narrowed := true }
def FnExactRecordOfUptoSaid : Prop := fnExactRecordOfUptoRow.holds Try.pinned (OpenSpec.upto fnExactRecordOfSpec)

/-- 'laws.FnExactUnbeatenIn', WHERE WHAT IT READS IS OF BULK AT MOST 1048576: true; the input reads as it did. -/
def fnExactUnbeatenInUptoRow : OpenClaim := { program := "ytoohpflomlhakab", sum := "08a3b242bf666a173361eb90ee83a4b683373fa5e402ca5517138b838136e86e", func := "loop.example/g03205/laws.FnExactUnbeatenIn", spec := "fnExactUnbeatenIn", unfollowed := true, recurses := true, apart := false, narrowed := true }
def FnExactUnbeatenInUptoSaid : Prop := fnExactUnbeatenInUptoRow.holds Try.pinned (OpenSpec.upto fnExactUnbeatenInSpec)

/-- 'laws.FnExactPointsOf', WHERE WHAT IT READS IS OF BULK AT MOST 1048576: true; the input reads as it did. -/
def fnExactPointsOfUptoRow : OpenClaim := { program := "ytoohpflomlhakab", sum := "08a3b242bf666a173361eb90ee83a4b683373fa5e402ca5517138b838136e86e", func := "loop.example/g03205/laws.FnExactPointsOf", spec := "fnExactPointsOf", unfollowed := true, recurses := true, apart := false, narrowed := true }
def FnExactPointsOfUptoSaid : Prop := fnExactPointsOfUptoRow.holds Try.pinned (OpenSpec.upto fnExactPointsOfSpec)

/-- 'laws.FnExactRestOf', WHERE WHAT IT READS IS OF BULK AT MOST 1048576: true; the input reads as it did. -/
def fnExactRestOfUptoRow : OpenClaim := { program := "ytoohpflomlhakab", sum := "08a3b242bf666a173361eb90ee83a4b683373fa5e402ca5517138b838136e86e", func := "loop.example/g03205/laws.FnExactRestOf", spec := "fnExactRestOf", unfollowed := true, recurses := true, apart := false, narrowed := true }
def FnExactRestOfUptoSaid : Prop := fnExactRestOfUptoRow.holds Try.pinned (OpenSpec.upto fnExactRestOfSpec)

/-- 'laws.FnExactTableOf', WHERE WHAT IT READS IS OF BULK AT MOST 1048576: true; the input reads as it did. -/
def fnExactTableOfUptoRow : OpenClaim := { program := "ytoohpflomlhakab", sum := "08a3b242bf666a173361eb90ee83a4b683373fa5e402ca5517138b838136e86e", func := "loop.example/g03205/laws.FnExactTableOf", spec := "fnExactTableOf", unfollowed := true, recurses := true, apart := false, narrowed := true }
def FnExactTableOfUptoSaid : Prop := fnExactTableOfUptoRow.holds Try.pinned (OpenSpec.upto fnExactTableOfSpec)

/-- 'laws.FnLeagues', WHERE WHAT IT READS IS OF BULK AT MOST 1048576: true; the input reads as it did. -/
def fnLeaguesUptoRow : OpenClaim := { program := "ytoohpflomlhakab", sum := "08a3b242bf666a173361eb90ee83a4b683373fa5e402ca5517138b838136e86e", func := "loop.example/g03205/laws.FnLeagues", spec := "fnLeagues", unfollowed := true, recurses := true, apart := false, narrowed := true }
def FnLeaguesUptoSaid : Prop := fnLeaguesUptoRow.holds Try.pinned (OpenSpec.upto fnLeaguesSpec)

end Rows
end Go.Proofs.Ytoohpflomlhakab
