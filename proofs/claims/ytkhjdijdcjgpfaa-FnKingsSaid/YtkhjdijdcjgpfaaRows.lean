/-
  No cell of these rows narrows 'for every input' (looked for: loops, veiled, ifaces, maps, wideKeys, modest, calm, conditions, laid).
  DERIVED. THE GIVEN ROWS OF THIS SEAT. 5 by the template 'for every input the law returns true; each argument reads behind the call as it read before'; 0 by the template 'total and deterministic' (their statements: YtkhjdijdcjgpfaaTotals.lean).
  GIVEN WITH THE SEED: the statements are not yours to turn. If you find one false, say at which input.
  Laid BY PROGRAM, IN A SANDBOX (cutbox-rows.mjs): the forced cells as the released guide's own fill.sh prints them over the translation 3031fd32a90c3de4… (all of the seat's roots in one cut). By AI agents, Wed Nov 11 2026. No macro, syntax, notation, axiom, sorry.
-/
import Derived.Test.YtkhjdijdcjgpfaaChecked
import GoSem.Claim
import GoSem.ClaimJoined
import GoSem.ClaimMapViews
import Derived.JoinedTies
import Derived.KernelRfl
namespace Go.Proofs.Ytkhjdijdcjgpfaa
/- THE CELL 'sum', in the pinned program and in every row, IS THE sha256 OF THE DUMP (.gsa) THAT YtkhjdijdcjgpfaaProg.lean LOADS. Nothing in Lean hashes anything: it is a label: what it is worth is what the hold of that sum in a sandbox is worth. -/
noncomputable def Try.pinned : Pinned := { name := "ytkhjdijdcjgpfaa", sum := "3031fd32a90c3de408acee48d9788b4af0bd92ec5cf4a173ea8cfa4c177661c5", checked := Try.checked }
namespace Rows
def none {H : Type} : Left H := { results := [], args := [] }

/-- 'laws.FnKings': WHATEVER THE INPUT: true; the input reads as it did. -/
def fnKingsSpec : ChangeSpec := { name := "fnKings", fn := fun _ => fun
  | [d] => { results := [.lit (.bool true)], args := [d] }
  | _ => none }
def fnKingsRow : OpenClaim := { program := "ytkhjdijdcjgpfaa", sum := "3031fd32a90c3de408acee48d9788b4af0bd92ec5cf4a173ea8cfa4c177661c5", func := "loop.example/g03205/laws.FnKings", spec := "fnKings", unfollowed := true, recurses := true, apart := false }
def FnKingsSaid : Prop := fnKingsRow.holds Try.pinned (OpenSpec.ofChange fnKingsSpec)

/-- ITS FALSE NEIGHBOUR: 'it returns false'. Refute it at one input. -/
def fnKingsWrong : ChangeSpec := { name := "fnKings", fn := fun _ => fun
  | [d] => { results := [.lit (.bool false)], args := [d] }
  | _ => none }
def FnKingsWrongFalsely : Prop := fnKingsRow.holds Try.pinned (OpenSpec.ofChange fnKingsWrong)

/-- 'laws.FnStrong': WHATEVER THE INPUT: true; the input reads as it did. -/
def fnStrongSpec : ChangeSpec := { name := "fnStrong", fn := fun _ => fun
  | [d] => { results := [.lit (.bool true)], args := [d] }
  | _ => none }
def fnStrongRow : OpenClaim := { program := "ytkhjdijdcjgpfaa", sum := "3031fd32a90c3de408acee48d9788b4af0bd92ec5cf4a173ea8cfa4c177661c5", func := "loop.example/g03205/laws.FnStrong", spec := "fnStrong", unfollowed := true, recurses := true, apart := false }
def FnStrongSaid : Prop := fnStrongRow.holds Try.pinned (OpenSpec.ofChange fnStrongSpec)

/-- ITS FALSE NEIGHBOUR: 'it returns false'. Refute it at one input. -/
def fnStrongWrong : ChangeSpec := { name := "fnStrong", fn := fun _ => fun
  | [d] => { results := [.lit (.bool false)], args := [d] }
  | _ => none }
def FnStrongWrongFalsely : Prop := fnStrongRow.holds Try.pinned (OpenSpec.ofChange fnStrongWrong)

/-- 'laws.FnWays': WHATEVER THE INPUT: true; the input reads as it did. -/
def fnWaysSpec : ChangeSpec := { name := "fnWays", fn := fun _ => fun
  | [d] => { results := [.lit (.bool true)], args := [d] }
  | _ => none }
def fnWaysRow : OpenClaim := { program := "ytkhjdijdcjgpfaa", sum := "3031fd32a90c3de408acee48d9788b4af0bd92ec5cf4a173ea8cfa4c177661c5", func := "loop.example/g03205/laws.FnWays", spec := "fnWays", inPlace := ["slices.overlaps[int]"], unfollowed := true, recurses := true, apart := false }
def FnWaysSaid : Prop := fnWaysRow.holds Try.pinned (OpenSpec.ofChange fnWaysSpec)

/-- ITS FALSE NEIGHBOUR: 'it returns false'. Refute it at one input. -/
def fnWaysWrong : ChangeSpec := { name := "fnWays", fn := fun _ => fun
  | [d] => { results := [.lit (.bool false)], args := [d] }
  | _ => none }
def FnWaysWrongFalsely : Prop := fnWaysRow.holds Try.pinned (OpenSpec.ofChange fnWaysWrong)

/-- 'laws.FnOrders': WHATEVER THE INPUT: true; the input reads as it did. -/
def fnOrdersSpec : ChangeSpec := { name := "fnOrders", fn := fun _ => fun
  | [d] => { results := [.lit (.bool true)], args := [d] }
  | _ => none }
def fnOrdersRow : OpenClaim := { program := "ytkhjdijdcjgpfaa", sum := "3031fd32a90c3de408acee48d9788b4af0bd92ec5cf4a173ea8cfa4c177661c5", func := "loop.example/g03205/laws.FnOrders", spec := "fnOrders", inPlace := ["slices.overlaps[int]"], unfollowed := true, recurses := true, apart := false }
def FnOrdersSaid : Prop := fnOrdersRow.holds Try.pinned (OpenSpec.ofChange fnOrdersSpec)

/-- ITS FALSE NEIGHBOUR: 'it returns false'. Refute it at one input. -/
def fnOrdersWrong : ChangeSpec := { name := "fnOrders", fn := fun _ => fun
  | [d] => { results := [.lit (.bool false)], args := [d] }
  | _ => none }
def FnOrdersWrongFalsely : Prop := fnOrdersRow.holds Try.pinned (OpenSpec.ofChange fnOrdersWrong)

/-- 'laws.FnExactCountKinds': WHATEVER THE INPUT: true; the input reads as it did. -/
def fnExactCountKindsSpec : ChangeSpec := { name := "fnExactCountKinds", fn := fun _ => fun
  | [d] => { results := [.lit (.bool true)], args := [d] }
  | _ => none }
def fnExactCountKindsRow : OpenClaim := { program := "ytkhjdijdcjgpfaa", sum := "3031fd32a90c3de408acee48d9788b4af0bd92ec5cf4a173ea8cfa4c177661c5", func := "loop.example/g03205/laws.FnExactCountKinds", spec := "fnExactCountKinds", unfollowed := true, recurses := true, apart := false }
def FnExactCountKindsSaid : Prop := fnExactCountKindsRow.holds Try.pinned (OpenSpec.ofChange fnExactCountKindsSpec)

/-- ITS FALSE NEIGHBOUR: 'it returns false'. Refute it at one input. -/
def fnExactCountKindsWrong : ChangeSpec := { name := "fnExactCountKinds", fn := fun _ => fun
  | [d] => { results := [.lit (.bool false)], args := [d] }
  | _ => none }
def FnExactCountKindsWrongFalsely : Prop := fnExactCountKindsRow.holds Try.pinned (OpenSpec.ofChange fnExactCountKindsWrong)

/- THE SECOND FORM. 'bulk': how many values and letters a reading holds, each counted each time it is reached (what is shared counts as often as it is met; a slice's spare places count too). A statement '..UptoSaid' is the law's where the arguments, and the package variables that the reading takes, are together of bulk at most 1048576: NARROWER than '..Said'. Prove '..Said' where nothing that the law and all that it calls make is longer than what came in: it says more and counts as full. Else prove '..UptoSaid'. A law counts once. -/
mutual
def uptoBulk {H : Type} : DataW H → Nat
  | .lit (.string bytes) => bytes.length + 1
  | .lit _ => 1
  | .nil => 1
  | .ptr d => uptoBulk d + 1
  | .slice elems spare => uptoBulkAll elems + uptoBulkAll spare + 1
  | .agg parts => uptoBulkAll parts + 1
  | .iface _ d => uptoBulk d + 1
  | .map entries => uptoBulkEntries entries + 1
  | .held _ => 1
def uptoBulkAll {H : Type} : List (DataW H) → Nat
  | [] => 0
  | d :: r => uptoBulk d + uptoBulkAll r
def uptoBulkEntries {H : Type} : List (Lit × DataW H) → Nat
  | [] => 0
  | x :: r => uptoBulkEntry x + uptoBulkEntries r
def uptoBulkEntry {H : Type} : Lit × DataW H → Nat
  | (.string bytes, d) => bytes.length + uptoBulk d + 1
  | (_, d) => uptoBulk d + 1
 end
def uptoSmall : (H : Type) → List (DataW H) → Bool := fun _ ds => decide (uptoBulkAll ds ≤ 1048576)
def OpenSpec.upto (s : _root_.Go.ChangeSpec) : _root_.Go.OpenSpec := { _root_.Go.OpenSpec.ofChange s with cond := some uptoSmall }

/-- 'laws.FnKings', WHERE WHAT IT READS IS OF BULK AT MOST 1048576: true; the input reads as it did. -/
def fnKingsUptoRow : OpenClaim := { program := "ytkhjdijdcjgpfaa", sum := "3031fd32a90c3de408acee48d9788b4af0bd92ec5cf4a173ea8cfa4c177661c5", func := "loop.example/g03205/laws.FnKings", spec := "fnKings", unfollowed := true, recurses := true, apart := false, narrowed := true }
def FnKingsUptoSaid : Prop := fnKingsUptoRow.holds Try.pinned (OpenSpec.upto fnKingsSpec)

/-- 'laws.FnStrong', WHERE WHAT IT READS IS OF BULK AT MOST 1048576: true; the input reads as it did. -/
def fnStrongUptoRow : OpenClaim := { program := "ytkhjdijdcjgpfaa", sum := "3031fd32a90c3de408acee48d9788b4af0bd92ec5cf4a173ea8cfa4c177661c5", func := "loop.example/g03205/laws.FnStrong", spec := "fnStrong", unfollowed := true, recurses := true, apart := false, narrowed := true }
def FnStrongUptoSaid : Prop := fnStrongUptoRow.holds Try.pinned (OpenSpec.upto fnStrongSpec)

/-- 'laws.FnWays', WHERE WHAT IT READS IS OF BULK AT MOST 1048576: true; the input reads as it did. -/
def fnWaysUptoRow : OpenClaim := { program := "ytkhjdijdcjgpfaa", sum := "3031fd32a90c3de408acee48d9788b4af0bd92ec5cf4a173ea8cfa4c177661c5", func := "loop.example/g03205/laws.FnWays", spec := "fnWays", inPlace := ["slices.overlaps[int]"], unfollowed := true, recurses := true, apart := false, narrowed := true }
def FnWaysUptoSaid : Prop := fnWaysUptoRow.holds Try.pinned (OpenSpec.upto fnWaysSpec)

/-- 'laws.FnOrders', WHERE WHAT IT READS IS OF BULK AT MOST 1048576: true; the input reads as it did. -/
def fnOrdersUptoRow : OpenClaim := { program := "ytkhjdijdcjgpfaa", sum := "3031fd32a90c3de408acee48d9788b4af0bd92ec5cf4a173ea8cfa4c177661c5", func := "loop.example/g03205/laws.FnOrders", spec := "fnOrders", inPlace := ["slices.overlaps[int]"], unfollowed := true, recurses := true, apart := false, narrowed := true }
def FnOrdersUptoSaid : Prop := fnOrdersUptoRow.holds Try.pinned (OpenSpec.upto fnOrdersSpec)

/-- 'laws.FnExactCountKinds', WHERE WHAT IT READS IS OF BULK AT MOST 1048576: true; the input reads as it did. -/
def fnExactCountKindsUptoRow : OpenClaim := { program := "ytkhjdijdcjgpfaa", sum := "3031fd32a90c3de408acee48d9788b4af0bd92ec5cf4a173ea8cfa4c177661c5", func := "loop.example/g03205/laws.FnExactCountKinds", spec := "fnExactCountKinds", unfollowed := true, recurses := true, apart := false, narrowed := true }
def FnExactCountKindsUptoSaid : Prop := fnExactCountKindsUptoRow.holds Try.pinned (OpenSpec.upto fnExactCountKindsSpec)

end Rows
end Go.Proofs.Ytkhjdijdcjgpfaa
