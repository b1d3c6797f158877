/-
  No cell of these rows narrows 'for every input' (looked for: loops, veiled, ifaces, maps, wideKeys, modest, calm, conditions, laid).
  DERIVED. THE GIVEN ROWS OF THIS SEAT. 4 by the template 'for every input the law returns true; each argument reads behind the call as it read before'; 0 by the template 'total and deterministic' (their statements: YtdmneccfbfdloaaTotals.lean).
  GIVEN WITH THE SEED: the statements are not yours to turn. If you find one false, say at which input.
  Laid BY PROGRAM, IN A SANDBOX (cutbox-rows.mjs): the forced cells as the released guide's own fill.sh prints them over the translation c4176a696dc3b52d… (all of the seat's roots in one cut). By AI agents, Wed Nov 11 2026. No macro, syntax, notation, axiom, sorry.
-/
import Derived.Test.YtdmneccfbfdloaaChecked
import GoSem.Claim
import GoSem.ClaimJoined
import GoSem.ClaimMapViews
import Derived.JoinedTies
import Derived.KernelRfl
namespace Go.Proofs.Ytdmneccfbfdloaa
/- THE CELL 'sum', in the pinned program and in every row, IS THE sha256 OF THE DUMP (.gsa) THAT YtdmneccfbfdloaaProg.lean LOADS. Nothing in Lean hashes anything: it is a label: what it is worth is what the hold of that sum in a sandbox is worth. -/
noncomputable def Try.pinned : Pinned := { name := "ytdmneccfbfdloaa", sum := "c4176a696dc3b52dbff3721d653763ee0bd349f15e48985a2f9e93bd7a14dff9", checked := Try.checked }
namespace Rows
def none {H : Type} : Left H := { results := [], args := [] }

/-- 'laws.FnExactOrderBy': WHATEVER THE INPUT: true; the input reads as it did. -/
def fnExactOrderBySpec : ChangeSpec := { name := "fnExactOrderBy", fn := fun _ => fun
  | [d] => { results := [.lit (.bool true)], args := [d] }
  | _ => none }
def fnExactOrderByRow : OpenClaim := { program := "ytdmneccfbfdloaa", sum := "c4176a696dc3b52dbff3721d653763ee0bd349f15e48985a2f9e93bd7a14dff9", func := "loop.example/g03205/laws.FnExactOrderBy", spec := "fnExactOrderBy", unfollowed := true, recurses := true, apart := false }
def FnExactOrderBySaid : Prop := fnExactOrderByRow.holds Try.pinned (OpenSpec.ofChange fnExactOrderBySpec)

/-- ITS FALSE NEIGHBOUR: 'it returns false'. Refute it at one input. -/
def fnExactOrderByWrong : ChangeSpec := { name := "fnExactOrderBy", fn := fun _ => fun
  | [d] => { results := [.lit (.bool false)], args := [d] }
  | _ => none }
def FnExactOrderByWrongFalsely : Prop := fnExactOrderByRow.holds Try.pinned (OpenSpec.ofChange fnExactOrderByWrong)

/-- 'laws.FnExactLevelsOf': WHATEVER THE INPUT: true; the input reads as it did. -/
def fnExactLevelsOfSpec : ChangeSpec := { name := "fnExactLevelsOf", fn := fun _ => fun
  | [d] => { results := [.lit (.bool true)], args := [d] }
  | _ => none }
def fnExactLevelsOfRow : OpenClaim := { program := "ytdmneccfbfdloaa", sum := "c4176a696dc3b52dbff3721d653763ee0bd349f15e48985a2f9e93bd7a14dff9", func := "loop.example/g03205/laws.FnExactLevelsOf", spec := "fnExactLevelsOf", unfollowed := true, recurses := true, apart := false }
def FnExactLevelsOfSaid : Prop := fnExactLevelsOfRow.holds Try.pinned (OpenSpec.ofChange fnExactLevelsOfSpec)

/-- ITS FALSE NEIGHBOUR: 'it returns false'. Refute it at one input. -/
def fnExactLevelsOfWrong : ChangeSpec := { name := "fnExactLevelsOf", fn := fun _ => fun
  | [d] => { results := [.lit (.bool false)], args := [d] }
  | _ => none }
def FnExactLevelsOfWrongFalsely : Prop := fnExactLevelsOfRow.holds Try.pinned (OpenSpec.ofChange fnExactLevelsOfWrong)

/-- 'laws.FnExactCountKinds': WHATEVER THE INPUT: true; the input reads as it did. -/
def fnExactCountKindsSpec : ChangeSpec := { name := "fnExactCountKinds", fn := fun _ => fun
  | [d] => { results := [.lit (.bool true)], args := [d] }
  | _ => none }
def fnExactCountKindsRow : OpenClaim := { program := "ytdmneccfbfdloaa", sum := "c4176a696dc3b52dbff3721d653763ee0bd349f15e48985a2f9e93bd7a14dff9", func := "loop.example/g03205/laws.FnExactCountKinds", spec := "fnExactCountKinds", unfollowed := true, recurses := true, apart := false }
def FnExactCountKindsSaid : Prop := fnExactCountKindsRow.holds Try.pinned (OpenSpec.ofChange fnExactCountKindsSpec)

/-- ITS FALSE NEIGHBOUR: 'it returns false'. Refute it at one input. -/
def fnExactCountKindsWrong : ChangeSpec := { name := "fnExactCountKinds", fn := fun _ => fun
  | [d] => { results := [.lit (.bool false)], args := [d] }
  | _ => none }
def FnExactCountKindsWrongFalsely : Prop := fnExactCountKindsRow.holds Try.pinned (OpenSpec.ofChange fnExactCountKindsWrong)

/-- 'laws.FnLeagues': WHATEVER THE INPUT: true; the input reads as it did. -/
def fnLeaguesSpec : ChangeSpec := { name := "fnLeagues", fn := fun _ => fun
  | [d] => { results := [.lit (.bool true)], args := [d] }
  | _ => none }
def fnLeaguesRow : OpenClaim := { program := "ytdmneccfbfdloaa", sum := "c4176a696dc3b52dbff3721d653763ee0bd349f15e48985a2f9e93bd7a14dff9", func := "loop.example/g03205/laws.FnLeagues", spec := "fnLeagues", unfollowed := true, recurses := true, apart := false }
def FnLeaguesSaid : Prop := fnLeaguesRow.holds Try.pinned (OpenSpec.ofChange fnLeaguesSpec)

/-- ITS FALSE NEIGHBOUR: 'it returns false'. Refute it at one input. -/
def fnLeaguesWrong : ChangeSpec := { name := "fnLeagues", fn := fun _ => fun
  | [d] => { results := [.lit (.bool false)], args := [d] }
  | _ => none }
def FnLeaguesWrongFalsely : Prop := fnLeaguesRow.holds Try.pinned (OpenSpec.ofChange fnLeaguesWrong)

/- THE SECOND FORM. 'bulk': how many values and letters a reading holds, each counted each time it is reached (what is shared counts as often as it is met; a slice's spare places count too). A statement '..UptoSaid' is the law's where the arguments, and the package variables that the reading takes, are together of bulk at most 1048576: NARROWER than '..Said'. Prove '..Said' where nothing that the law and all that it calls make is longer than what came in: it says more and counts as full. Else prove '..UptoSaid'. A law counts once. -/
mutual
def uptoBulk {H : Type} : DataW H → Nat
  | .lit (.string bytes) => bytes.length + 1
  | .lit _ => 1
  | .nil => 1
  | .ptr d => uptoBulk d + 1
  | .slice elems spare => uptoBulkAll elems + uptoBulkAll spare + 1
  | .agg parts => uptoBulkAll parts + 1
  | .iface _ d => uptoBulk d + 1
  | .map entries => uptoBulkEntries entries + 1
  | .held _ => 1
def uptoBulkAll {H : Type} : List (DataW H) → Nat
  | [] => 0
  | d :: r => uptoBulk d + uptoBulkAll r
def uptoBulkEntries {H : Type} : List (Lit × DataW H) → Nat
  | [] => 0
  | x :: r => uptoBulkEntry x + uptoBulkEntries r
def uptoBulkEntry {H : Type} : Lit × DataW H → Nat
  | (.string bytes, d) => bytes.length + uptoBulk d + 1
  | (_, d) => uptoBulk d + 1
 end
def uptoSmall : (H : Type) → List (DataW H) → Bool := fun _ ds => decide (uptoBulkAll ds ≤ 1048576)
def OpenSpec.upto (s : _root_.Go.ChangeSpec) : _root_.Go.OpenSpec := { _root_.Go.OpenSpec.ofChange s with cond := some uptoSmall }

/-- 'laws.FnExactOrderBy', WHERE WHAT IT READS IS OF BULK AT MOST 1048576: true; the input reads as it did. -/
def fnExactOrderByUptoRow : OpenClaim := { program := "ytdmneccfbfdloaa", sum := "c4176a696dc3b52dbff3721d653763ee0bd349f15e48985a2f9e93bd7a14dff9", func := "loop.example/g03205/laws.FnExactOrderBy", spec := "fnExactOrderBy", unfollowed := true, recurses := true, apart := false, narrowed := true }
def FnExactOrderByUptoSaid : Prop := fnExactOrderByUptoRow.holds Try.pinned (OpenSpec.upto fnExactOrderBySpec)

/-- 'laws.FnExactLevelsOf', WHERE WHAT IT READS IS OF BULK AT MOST 1048576: true; the input reads as it did. -/
def fnExactLevelsOfUptoRow : OpenClaim := { program := "ytdmneccfbfdloaa", sum := "c4176a696dc3b52dbff3721d653763ee0bd349f15e48985a2f9e93bd7a14dff9", func := "loop.example/g03205/laws.FnExactLevelsOf", spec := "fnExactLevelsOf", unfollowed := true, recurses := true, apart := false, narrowed := true }
def FnExactLevelsOfUptoSaid : Prop := fnExactLevelsOfUptoRow.holds Try.pinned (OpenSpec.upto fnExactLevelsOfSpec)

/-- 'laws.FnExactCountKinds', WHERE WHAT IT READS IS OF BULK AT MOST 1048576: true; the input reads as it did. -/
def fnExactCountKindsUptoRow : OpenClaim := { program := "ytdmneccfbfdloaa", sum := "c4176a696dc3b52dbff3721d653763ee0bd349f15e48985a2f9e93bd7a14dff9", func := "loop.example/g03205/laws.FnExactCountKinds", spec := "fnExactCountKinds", unfollowed := true, recurses := true, apart := false, narrowed := true }
def FnExactCountKindsUptoSaid : Prop := fnExactCountKindsUptoRow.holds Try.pinned (OpenSpec.upto fnExactCountKindsSpec)

/-- 'laws.FnLeagues', WHERE WHAT IT READS IS OF BULK AT MOST 1048576: true; the input reads as it did. -/
def fnLeaguesUptoRow : OpenClaim := { program := "ytdmneccfbfdloaa", sum := "c4176a696dc3b52dbff3721d653763ee0bd349f15e48985a2f9e93bd7a14dff9", func := "loop.example/g03205/laws.FnLeagues", spec := "fnLeagues", unfollowed := true, recurses := true, apart := false, narrowed := true }
def FnLeaguesUptoSaid : Prop := fnLeaguesUptoRow.holds Try.pinned (OpenSpec.upto fnLeaguesSpec)

end Rows
end Go.Proofs.Ytdmneccfbfdloaa
