/-
  No cell of these rows narrows 'for every input' (looked for: loops, veiled, ifaces, maps, wideKeys, modest, calm, conditions, laid).
  DERIVED. THE GIVEN ROWS OF THIS SEAT. 6 by the template 'for every input the law returns true; each argument reads behind the call as it read before'; 0 by the template 'total and deterministic' (their statements: YtajeledbmnndmaaTotals.lean).
  GIVEN WITH THE SEED: the statements are not yours to turn. If you find one false, say at which input.
  Laid BY PROGRAM, IN A SANDBOX (cutbox-rows.mjs): the forced cells as the released guide's own fill.sh prints them over the translation d33a06fc787208a4… (all of the seat's roots in one cut). By AI agents, Wed Nov 11 2026. No macro, syntax, notation, axiom, sorry.
-/
import Derived.Test.YtajeledbmnndmaaChecked
import GoSem.Claim
import GoSem.ClaimJoined
import GoSem.ClaimMapViews
import Derived.JoinedTies
import Derived.KernelRfl
namespace Go.Proofs.Ytajeledbmnndmaa
/- THE CELL 'sum', in the pinned program and in every row, IS THE sha256 OF THE DUMP (.gsa) THAT YtajeledbmnndmaaProg.lean LOADS. Nothing in Lean hashes anything: it is a label: what it is worth is what the hold of that sum in a sandbox is worth. -/
noncomputable def Try.pinned : Pinned := { name := "ytajeledbmnndmaa", sum := "d33a06fc787208a414a2ddf654c21ae3066ae594930f6036b148ad73c8ab9113", checked := Try.checked }
namespace Rows
def none {H : Type} : Left H := { results := [], args := [] }

/-- 'laws.FnExactSafeStrategy': WHATEVER THE INPUT: true; the input reads as it did. -/
def fnExactSafeStrategySpec : ChangeSpec := { name := "fnExactSafeStrategy", fn := fun _ => fun
  | [d] => { results := [.lit (.bool true)], args := [d] }
  | _ => none }
def fnExactSafeStrategyRow : OpenClaim := { program := "ytajeledbmnndmaa", sum := "d33a06fc787208a414a2ddf654c21ae3066ae594930f6036b148ad73c8ab9113", func := "loop.example/g03205/laws.FnExactSafeStrategy", spec := "fnExactSafeStrategy", unfollowed := true, recurses := true, apart := false }
def FnExactSafeStrategySaid : Prop := fnExactSafeStrategyRow.holds Try.pinned (OpenSpec.ofChange fnExactSafeStrategySpec)

/-- ITS FALSE NEIGHBOUR: 'it returns false'. Refute it at one input. -/
def fnExactSafeStrategyWrong : ChangeSpec := { name := "fnExactSafeStrategy", fn := fun _ => fun
  | [d] => { results := [.lit (.bool false)], args := [d] }
  | _ => none }
def FnExactSafeStrategyWrongFalsely : Prop := fnExactSafeStrategyRow.holds Try.pinned (OpenSpec.ofChange fnExactSafeStrategyWrong)

/-- 'laws.FnExactSafeSet': WHATEVER THE INPUT: true; the input reads as it did. -/
def fnExactSafeSetSpec : ChangeSpec := { name := "fnExactSafeSet", fn := fun _ => fun
  | [d] => { results := [.lit (.bool true)], args := [d] }
  | _ => none }
def fnExactSafeSetRow : OpenClaim := { program := "ytajeledbmnndmaa", sum := "d33a06fc787208a414a2ddf654c21ae3066ae594930f6036b148ad73c8ab9113", func := "loop.example/g03205/laws.FnExactSafeSet", spec := "fnExactSafeSet", unfollowed := true, recurses := true, apart := false }
def FnExactSafeSetSaid : Prop := fnExactSafeSetRow.holds Try.pinned (OpenSpec.ofChange fnExactSafeSetSpec)

/-- ITS FALSE NEIGHBOUR: 'it returns false'. Refute it at one input. -/
def fnExactSafeSetWrong : ChangeSpec := { name := "fnExactSafeSet", fn := fun _ => fun
  | [d] => { results := [.lit (.bool false)], args := [d] }
  | _ => none }
def FnExactSafeSetWrongFalsely : Prop := fnExactSafeSetRow.holds Try.pinned (OpenSpec.ofChange fnExactSafeSetWrong)

/-- 'laws.FnSafe': WHATEVER THE INPUT: true; the input reads as it did. -/
def fnSafeSpec : ChangeSpec := { name := "fnSafe", fn := fun _ => fun
  | [d] => { results := [.lit (.bool true)], args := [d] }
  | _ => none }
def fnSafeRow : OpenClaim := { program := "ytajeledbmnndmaa", sum := "d33a06fc787208a414a2ddf654c21ae3066ae594930f6036b148ad73c8ab9113", func := "loop.example/g03205/laws.FnSafe", spec := "fnSafe", unfollowed := true, recurses := true, apart := false }
def FnSafeSaid : Prop := fnSafeRow.holds Try.pinned (OpenSpec.ofChange fnSafeSpec)

/-- ITS FALSE NEIGHBOUR: 'it returns false'. Refute it at one input. -/
def fnSafeWrong : ChangeSpec := { name := "fnSafe", fn := fun _ => fun
  | [d] => { results := [.lit (.bool false)], args := [d] }
  | _ => none }
def FnSafeWrongFalsely : Prop := fnSafeRow.holds Try.pinned (OpenSpec.ofChange fnSafeWrong)

/-- 'laws.FnStrong': WHATEVER THE INPUT: true; the input reads as it did. -/
def fnStrongSpec : ChangeSpec := { name := "fnStrong", fn := fun _ => fun
  | [d] => { results := [.lit (.bool true)], args := [d] }
  | _ => none }
def fnStrongRow : OpenClaim := { program := "ytajeledbmnndmaa", sum := "d33a06fc787208a414a2ddf654c21ae3066ae594930f6036b148ad73c8ab9113", func := "loop.example/g03205/laws.FnStrong", spec := "fnStrong", unfollowed := true, recurses := true, apart := false }
def FnStrongSaid : Prop := fnStrongRow.holds Try.pinned (OpenSpec.ofChange fnStrongSpec)

/-- ITS FALSE NEIGHBOUR: 'it returns false'. Refute it at one input. -/
def fnStrongWrong : ChangeSpec := { name := "fnStrong", fn := fun _ => fun
  | [d] => { results := [.lit (.bool false)], args := [d] }
  | _ => none }
def FnStrongWrongFalsely : Prop := fnStrongRow.holds Try.pinned (OpenSpec.ofChange fnStrongWrong)

/-- 'laws.FnWays': WHATEVER THE INPUT: true; the input reads as it did. -/
def fnWaysSpec : ChangeSpec := { name := "fnWays", fn := fun _ => fun
  | [d] => { results := [.lit (.bool true)], args := [d] }
  | _ => none }
def fnWaysRow : OpenClaim := { program := "ytajeledbmnndmaa", sum := "d33a06fc787208a414a2ddf654c21ae3066ae594930f6036b148ad73c8ab9113", func := "loop.example/g03205/laws.FnWays", spec := "fnWays", inPlace := ["slices.overlaps[int]"], unfollowed := true, recurses := true, apart := false }
def FnWaysSaid : Prop := fnWaysRow.holds Try.pinned (OpenSpec.ofChange fnWaysSpec)

/-- ITS FALSE NEIGHBOUR: 'it returns false'. Refute it at one input. -/
def fnWaysWrong : ChangeSpec := { name := "fnWays", fn := fun _ => fun
  | [d] => { results := [.lit (.bool false)], args := [d] }
  | _ => none }
def FnWaysWrongFalsely : Prop := fnWaysRow.holds Try.pinned (OpenSpec.ofChange fnWaysWrong)

/-- 'laws.FnOrders': WHATEVER THE INPUT: true; the input reads as it did. -/
def fnOrdersSpec : ChangeSpec := { name := "fnOrders", fn := fun _ => fun
  | [d] => { results := [.lit (.bool true)], args := [d] }
  | _ => none }
def fnOrdersRow : OpenClaim := { program := "ytajeledbmnndmaa", sum := "d33a06fc787208a414a2ddf654c21ae3066ae594930f6036b148ad73c8ab9113", func := "loop.example/g03205/laws.FnOrders", spec := "fnOrders", inPlace := ["slices.overlaps[int]"], unfollowed := true, recurses := true, apart := false }
def FnOrdersSaid : Prop := fnOrdersRow.holds Try.pinned (OpenSpec.ofChange fnOrdersSpec)

/-- ITS FALSE NEIGHBOUR: 'it returns false'. Refute it at one input. -/
def fnOrdersWrong : ChangeSpec := { name := "fnOrders", fn := fun _ => fun
  | [d] => { results := [.lit (.bool false)], args := [d] }
  | _ => none }
def FnOrdersWrongFalsely : Prop := fnOrdersRow.holds Try.pinned (OpenSpec.ofChange fnOrdersWrong)

/- THE SECOND FORM. 'bulk': how many values and letters a reading holds, each counted each time it is reached (what is shared counts as often as it is met; a slice's spare places count too). A statement '..UptoSaid' is the law's where the arguments, and the package variables that the reading takes, are together of bulk at most 1048576: NARROWER than '..Said'. Prove '..Said' where nothing that the law and all that it calls make is longer than what came in: it says more and counts as full. Else prove '..UptoSaid'. A law counts once. -/
mutual
def uptoBulk {H : Type} : DataW H → Nat
  | .lit (.string bytes) => bytes.length + 1
  | .lit _ => 1
  | .nil => 1
  | .ptr d => uptoBulk d + 1
  | .slice elems spare => uptoBulkAll elems + uptoBulkAll spare + 1
  | .agg parts => uptoBulkAll parts + 1
  | .iface _ d => uptoBulk d + 1
  | .map entries => uptoBulkEntries entries + 1
  | .held _ => 1
def uptoBulkAll {H : Type} : List (DataW H) → Nat
  | [] => 0
  | d :: r => uptoBulk d + uptoBulkAll r
def uptoBulkEntries {H : Type} : List (Lit × DataW H) → Nat
  | [] => 0
  | x :: r => uptoBulkEntry x + uptoBulkEntries r
def uptoBulkEntry {H : Type} : Lit × DataW H → Nat
  | (.string bytes, d) => bytes.length + uptoBulk d + 1
  | (_, d) => uptoBulk d + 1
 end
def uptoSmall : (H : Type) → List (DataW H) → Bool := fun _ ds => decide (uptoBulkAll ds ≤ 1048576)
def OpenSpec.upto (s : _root_.Go.ChangeSpec) : _root_.Go.OpenSpec := { _root_.Go.OpenSpec.ofChange s with cond := some uptoSmall }

/-- 'laws.FnExactSafeStrategy', WHERE WHAT IT READS IS OF BULK AT MOST 1048576: true; the input reads as it did. -/
def fnExactSafeStrategyUptoRow : OpenClaim := { program := "ytajeledbmnndmaa", sum := "d33a06fc787208a414a2ddf654c21ae3066ae594930f6036b148ad73c8ab9113", func := "loop.example/g03205/laws.FnExactSafeStrategy", spec := "fnExactSafeStrategy", unfollowed := true, recurses := true, apart := false, narrowed := true }
def FnExactSafeStrategyUptoSaid : Prop := fnExactSafeStrategyUptoRow.holds Try.pinned (OpenSpec.upto fnExactSafeStrategySpec)

/-- 'laws.FnExactSafeSet', WHERE WHAT IT READS IS OF BULK AT MOST 1048576: true; the input reads as it did. -/
def fnExactSafeSetUptoRow : OpenClaim := { program := "ytajeledbmnndmaa", sum := "d33a06fc787208a414a2ddf654c21ae3066ae594930f6036b148ad73c8ab9113", func := "loop.example/g03205/laws.FnExactSafeSet", spec := "fnExactSafeSet", unfollowed := true, recurses := true, apart := false, narrowed := true }
def FnExactSafeSetUptoSaid : Prop := fnExactSafeSetUptoRow.holds Try.pinned (OpenSpec.upto fnExactSafeSetSpec)

/-- 'laws.FnSafe', WHERE WHAT IT READS IS OF BULK AT MOST 1048576: true; the input reads as it did. -/
def fnSafeUptoRow : OpenClaim := { program := "ytajeledbmnndmaa", sum := "d33a06fc787208a414a2ddf654c21ae3066ae594930f6036b148ad73c8ab9113", func := "loop.example/g03205/laws.FnSafe", spec := "fnSafe", unfollowed := true, recurses := true, apart := false, narrowed := true }
def FnSafeUptoSaid : Prop := fnSafeUptoRow.holds Try.pinned (OpenSpec.upto fnSafeSpec)

/-- 'laws.FnStrong', WHERE WHAT IT READS IS OF BULK AT MOST 1048576: true; the input reads as it did. -/
def fnStrongUptoRow : OpenClaim := { program := "ytajeledbmnndmaa", sum := "d33a06fc787208a414a2ddf654c21ae3066ae594930f6036b148ad73c8ab9113", func := "loop.example/g03205/laws.FnStrong", spec := "fnStrong", unfollowed := true, recurses := true, apart := false, narrowed := true }
def FnStrongUptoSaid : Prop := fnStrongUptoRow.holds Try.pinned (OpenSpec.upto fnStrongSpec)

/-- 'laws.FnWays', WHERE WHAT IT READS IS OF BULK AT MOST 1048576: true; the input reads as it did. -/
def fnWaysUptoRow : OpenClaim := { program := "ytajeledbmnndmaa", sum := "d33a06fc787208a414a2ddf654c21ae3066ae594930f6036b148ad73c8ab9113", func := "loop.example/g03205/laws.FnWays", spec := "fnWays", inPlace := ["slices.overlaps[int]"], unfollowed := true, recurses := true, apart := false, narrowed := true }
def FnWaysUptoSaid : Prop := fnWaysUptoRow.holds Try.pinned (OpenSpec.upto fnWaysSpec)

/-- 'laws.FnOrders', WHERE WHAT IT READS IS OF BULK AT MOST 1048576: true; the input reads as it did. -/
def fnOrdersUptoRow : OpenClaim := { program := "ytajeledbmnndmaa", sum := "d33a06fc787208a414a2ddf654c21ae3066ae594930f6036b148ad73c8ab9113", func := "loop.example/g03205/laws.FnOrders", spec := "fnOrders", inPlace := ["slices.overlaps[int]"], unfollowed := true, recurses := true, apart := false, narrowed := true }
def FnOrdersUptoSaid : Prop := fnOrdersUptoRow.holds Try.pinned (OpenSpec.upto fnOrdersSpec)

end Rows
end Go.Proofs.Ytajeledbmnndmaa
