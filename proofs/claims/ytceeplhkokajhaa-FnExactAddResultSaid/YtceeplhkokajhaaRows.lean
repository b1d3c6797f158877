/-
  No cell of these rows narrows 'for every input' (looked for: loops, veiled, ifaces, maps, wideKeys, modest, calm, conditions, laid).
  DERIVED. THE GIVEN ROWS OF THIS SEAT. 6 by the template 'for every input the law returns true; each argument reads behind the call as it read before'; 0 by the template 'total and deterministic' (their statements: YtceeplhkokajhaaTotals.lean).
  GIVEN WITH THE SEED: the statements are not yours to turn. If you find one false, say at which input.
  Laid BY PROGRAM, IN A SANDBOX (cutbox-rows.mjs): the forced cells as the released guide's own fill.sh prints them over the translation ac98f29108392368… (all of the seat's roots in one cut). By AI agents, Wed Nov 11 2026. No macro, syntax, notation, axiom, sorry.
-/
import Derived.Test.YtceeplhkokajhaaChecked
import GoSem.Claim
import GoSem.ClaimJoined
import GoSem.ClaimMapViews
import Derived.JoinedTies
import Derived.KernelRfl
namespace Go.Proofs.Ytceeplhkokajhaa
/- THE CELL 'sum', in the pinned program and in every row, IS THE sha256 OF THE DUMP (.gsa) THAT YtceeplhkokajhaaProg.lean LOADS. Nothing in Lean hashes anything: it is a label: what it is worth is what the hold of that sum in a sandbox is worth. -/
noncomputable def Try.pinned : Pinned := { name := "ytceeplhkokajhaa", sum := "ac98f29108392368bada12e1493e90e0d028d613a054caa610f8c4bded747163", checked := Try.checked }
namespace Rows
def none {H : Type} : Left H := { results := [], args := [] }

/-- 'laws.FnExactAddResult': WHATEVER THE INPUT: true; the input reads as it did. -/
def fnExactAddResultSpec : ChangeSpec := { name := "fnExactAddResult", fn := fun _ => fun
  | [d1, d2] => { results := [.lit (.bool true)], args := [d1, d2] }
  | _ => none }
def fnExactAddResultRow : OpenClaim := { program := "ytceeplhkokajhaa", sum := "ac98f29108392368bada12e1493e90e0d028d613a054caa610f8c4bded747163", func := "loop.example/g03205/laws.FnExactAddResult", spec := "fnExactAddResult", unfollowed := true, recurses := true, apart := false }
def FnExactAddResultSaid : Prop := fnExactAddResultRow.holds Try.pinned (OpenSpec.ofChange fnExactAddResultSpec)

/-- ITS FALSE NEIGHBOUR: 'it returns false'. Refute it at one input. -/
def fnExactAddResultWrong : ChangeSpec := { name := "fnExactAddResult", fn := fun _ => fun
  | [d1, d2] => { results := [.lit (.bool false)], args := [d1, d2] }
  | _ => none }
def FnExactAddResultWrongFalsely : Prop := fnExactAddResultRow.holds Try.pinned (OpenSpec.ofChange fnExactAddResultWrong)

/-- 'laws.FnLeagues': WHATEVER THE INPUT: true; the input reads as it did. -/
def fnLeaguesSpec : ChangeSpec := { name := "fnLeagues", fn := fun _ => fun
  | [d] => { results := [.lit (.bool true)], args := [d] }
  | _ => none }
def fnLeaguesRow : OpenClaim := { program := "ytceeplhkokajhaa", sum := "ac98f29108392368bada12e1493e90e0d028d613a054caa610f8c4bded747163", func := "loop.example/g03205/laws.FnLeagues", spec := "fnLeagues", unfollowed := true, recurses := true, apart := false }
def FnLeaguesSaid : Prop := fnLeaguesRow.holds Try.pinned (OpenSpec.ofChange fnLeaguesSpec)

/-- ITS FALSE NEIGHBOUR: 'it returns false'. Refute it at one input. -/
def fnLeaguesWrong : ChangeSpec := { name := "fnLeagues", fn := fun _ => fun
  | [d] => { results := [.lit (.bool false)], args := [d] }
  | _ => none }
def FnLeaguesWrongFalsely : Prop := fnLeaguesRow.holds Try.pinned (OpenSpec.ofChange fnLeaguesWrong)

/-- 'laws.FnExactOrderBy': WHATEVER THE INPUT: true; the input reads as it did. -/
def fnExactOrderBySpec : ChangeSpec := { name := "fnExactOrderBy", fn := fun _ => fun
  | [d] => { results := [.lit (.bool true)], args := [d] }
  | _ => none }
def fnExactOrderByRow : OpenClaim := { program := "ytceeplhkokajhaa", sum := "ac98f29108392368bada12e1493e90e0d028d613a054caa610f8c4bded747163", func := "loop.example/g03205/laws.FnExactOrderBy", spec := "fnExactOrderBy", unfollowed := true, recurses := true, apart := false }
def FnExactOrderBySaid : Prop := fnExactOrderByRow.holds Try.pinned (OpenSpec.ofChange fnExactOrderBySpec)

/-- ITS FALSE NEIGHBOUR: 'it returns false'. Refute it at one input. -/
def fnExactOrderByWrong : ChangeSpec := { name := "fnExactOrderBy", fn := fun _ => fun
  | [d] => { results := [.lit (.bool false)], args := [d] }
  | _ => none }
def FnExactOrderByWrongFalsely : Prop := fnExactOrderByRow.holds Try.pinned (OpenSpec.ofChange fnExactOrderByWrong)

/-- 'laws.FnExactLevelsOf': WHATEVER THE INPUT: true; the input reads as it did. -/
def fnExactLevelsOfSpec : ChangeSpec := { name := "fnExactLevelsOf", fn := fun _ => fun
  | [d] => { results := [.lit (.bool true)], args := [d] }
  | _ => none }
def fnExactLevelsOfRow : OpenClaim := { program := "ytceeplhkokajhaa", sum := "ac98f29108392368bada12e1493e90e0d028d613a054caa610f8c4bded747163", func := "loop.example/g03205/laws.FnExactLevelsOf", spec := "fnExactLevelsOf", unfollowed := true, recurses := true, apart := false }
def FnExactLevelsOfSaid : Prop := fnExactLevelsOfRow.holds Try.pinned (OpenSpec.ofChange fnExactLevelsOfSpec)

/-- ITS FALSE NEIGHBOUR: 'it returns false'. Refute it at one input. -/
def fnExactLevelsOfWrong : ChangeSpec := { name := "fnExactLevelsOf", fn := fun _ => fun
  | [d] => { results := [.lit (.bool false)], args := [d] }
  | _ => none }
def FnExactLevelsOfWrongFalsely : Prop := fnExactLevelsOfRow.holds Try.pinned (OpenSpec.ofChange fnExactLevelsOfWrong)

/-- 'laws.FnExactSafeStrategy': WHATEVER THE INPUT: true; the input reads as it did. -/
def fnExactSafeStrategySpec : ChangeSpec := { name := "fnExactSafeStrategy", fn := fun _ => fun
  | [d] => { results := [.lit (.bool true)], args := [d] }
  | _ => none }
def fnExactSafeStrategyRow : OpenClaim := { program := "ytceeplhkokajhaa", sum := "ac98f29108392368bada12e1493e90e0d028d613a054caa610f8c4bded747163", func := "loop.example/g03205/laws.FnExactSafeStrategy", spec := "fnExactSafeStrategy", unfollowed := true, recurses := true, apart := false }
def FnExactSafeStrategySaid : Prop := fnExactSafeStrategyRow.holds Try.pinned (OpenSpec.ofChange fnExactSafeStrategySpec)

/-- ITS FALSE NEIGHBOUR: 'it returns false'. Refute it at one input. -/
def fnExactSafeStrategyWrong : ChangeSpec := { name := "fnExactSafeStrategy", fn := fun _ => fun
  | [d] => { results := [.lit (.bool false)], args := [d] }
  | _ => none }
def FnExactSafeStrategyWrongFalsely : Prop := fnExactSafeStrategyRow.holds Try.pinned (OpenSpec.ofChange fnExactSafeStrategyWrong)

/-- 'laws.FnExactSafeSet': WHATEVER THE INPUT: true; the input reads as it did. -/
def fnExactSafeSetSpec : ChangeSpec := { name := "fnExactSafeSet", fn := fun _ => fun
  | [d] => { results := [.lit (.bool true)], args := [d] }
  | _ => none }
def fnExactSafeSetRow : OpenClaim := { program := "ytceeplhkokajhaa", sum := "ac98f29108392368bada12e1493e90e0d028d613a054caa610f8c4bded747163", func := "loop.example/g03205/laws.FnExactSafeSet", spec := "fnExactSafeSet", unfollowed := true, recurses := true, apart := false }
def FnExactSafeSetSaid : Prop := fnExactSafeSetRow.holds Try.pinned (OpenSpec.ofChange fnExactSafeSetSpec)

/-- ITS FALSE NEIGHBOUR: 'it returns false'. Refute it at one input. -/
def fnExactSafeSetWrong : ChangeSpec := { name := "fnExactSafeSet", fn := fun _ => fun
  | [d] => { results := [.lit (.bool false)], args := [d] }
  | _ => none }
def FnExactSafeSetWrongFalsely : Prop := fnExactSafeSetRow.holds Try.pinned (OpenSpec.ofChange fnExactSafeSetWrong)

/- THE SECOND FORM. 'bulk': how many values and letters a reading holds, each counted each time it is reached (what is shared counts as often as it is met; a slice's spare places count too). A statement '..UptoSaid' is the law's where the arguments, and the package variables that the reading takes, are together of bulk at most 1048576: NARROWER than '..Said'. Prove '..Said' where nothing that the law and all that it calls make is longer than what came in: it says more and counts as full. Else prove '..UptoSaid'. A law counts once. -/
mutual
def uptoBulk {H : Type} : DataW H → Nat
  | .lit (.string bytes) => bytes.length + 1
  | .lit _ => 1
  | .nil => 1
  | .ptr d => uptoBulk d + 1
  | .slice elems spare => uptoBulkAll elems + uptoBulkAll spare + 1
  | .agg parts => uptoBulkAll parts + 1
  | .iface _ d => uptoBulk d + 1
  | .map entries => uptoBulkEntries entries + 1
  | .held _ => 1
def uptoBulkAll {H : Type} : List (DataW H) → Nat
  | [] => 0
  | d :: r => uptoBulk d + uptoBulkAll r
def uptoBulkEntries {H : Type} : List (Lit × DataW H) → Nat
  | [] => 0
  | x :: r => uptoBulkEntry x + uptoBulkEntries r
def uptoBulkEntry {H : Type} : Lit × DataW H → Nat
  | (.string bytes, d) => bytes.length + uptoBulk d + 1
  | (_, d) => uptoBulk d + 1
 end
def uptoSmall : (H : Type) → List (DataW H) → Bool := fun _ ds => decide (uptoBulkAll ds ≤ 1048576)
def OpenSpec.upto (s : _root_.Go.ChangeSpec) : _root_.Go.OpenSpec := { _root_.Go.OpenSpec.ofChange s with cond := some uptoSmall }

/-- 'laws.FnExactAddResult', WHERE WHAT IT READS IS OF BULK AT MOST 1048576: true; the input reads as it did. -/
def fnExactAddResultUptoRow : OpenClaim := { program := "ytceeplhkokajhaa", sum := "ac98f29108392368bada12e1493e90e0d028d613a054caa610f8c4bded747163", func := "loop.example/g03205/laws.FnExactAddResult", spec := "fnExactAddResult", unfollowed := true, recurses := true, apart := false, narrowed := true }
def FnExactAddResultUptoSaid : Prop := fnExactAddResultUptoRow.holds Try.pinned (OpenSpec.upto fnExactAddResultSpec)

/-- 'laws.FnLeagues', WHERE WHAT IT READS IS OF BULK AT MOST 1048576: true; the input reads as it did. -/
def fnLeaguesUptoRow : OpenClaim := { program := "ytceeplhkokajhaa", sum := "ac98f29108392368bada12e1493e90e0d028d613a054caa610f8c4bded747163", func := "loop.example/g03205/laws.FnLeagues", spec := "fnLeagues", unfollowed := true, recurses := true, apart := false, narrowed := true }
def FnLeaguesUptoSaid : Prop := fnLeaguesUptoRow.holds Try.pinned (OpenSpec.upto fnLeaguesSpec)

/-- 'laws.FnExactOrderBy', WHERE WHAT IT READS IS OF BULK AT MOST 1048576: true; the input reads as it did. -/
def fnExactOrderByUptoRow : OpenClaim := { program := "ytceeplhkokajhaa", sum := "ac98f29108392368bada12e1493e90e0d028d613a054caa610f8c4bded747163", func := "loop.example/g03205/laws.FnExactOrderBy", spec := "fnExactOrderBy", unfollowed := true, recurses := true, apart := false, narrowed := true }
def FnExactOrderByUptoSaid : Prop := fnExactOrderByUptoRow.holds Try.pinned (OpenSpec.upto fnExactOrderBySpec)

/-- 'laws.FnExactLevelsOf', WHERE WHAT IT READS IS OF BULK AT MOST 1048576: true; the input reads as it did. -/
def fnExactLevelsOfUptoRow : OpenClaim := { program := "ytceeplhkokajhaa", sum := "ac98f29108392368bada12e1493e90e0d028d613a054caa610f8c4bded747163", func := "loop.example/g03205/laws.FnExactLevelsOf", spec := "fnExactLevelsOf", unfollowed := true, recurses := true, apart := false, narrowed := true }
def FnExactLevelsOfUptoSaid : Prop := fnExactLevelsOfUptoRow.holds Try.pinned (OpenSpec.upto fnExactLevelsOfSpec)

/-- 'laws.FnExactSafeStrategy', WHERE WHAT IT READS IS OF BULK AT MOST 1048576: true; the input reads as it did. -/
def fnExactSafeStrategyUptoRow : OpenClaim := { program := "ytceeplhkokajhaa", sum := "ac98f29108392368bada12e1493e90e0d028d613a054caa610f8c4bded747163", func := "loop.example/g03205/laws.FnExactSafeStrategy", spec := "fnExactSafeStrategy", unfollowed := true, recurses := true, apart := false, narrowed := true }
def FnExactSafeStrategyUptoSaid : Prop := fnExactSafeStrategyUptoRow.holds Try.pinned (OpenSpec.upto fnExactSafeStrategySpec)

/-- 'laws.FnExactSafeSet', WHERE WHAT IT READS IS OF BULK AT MOST 1048576: true; the input reads as it did. -/
def fnExactSafeSetUptoRow : OpenClaim := { program := "ytceeplhkokajhaa", sum := "ac98f29108392368bada12e1493e90e0d028d613a054caa610f8c4bded747163", func := "loop.example/g03205/laws.FnExactSafeSet", spec := "fnExactSafeSet", unfollowed := true, recurses := true, apart := false, narrowed := true }
def FnExactSafeSetUptoSaid : Prop := fnExactSafeSetUptoRow.holds Try.pinned (OpenSpec.upto fnExactSafeSetSpec)

end Rows
end Go.Proofs.Ytceeplhkokajhaa
