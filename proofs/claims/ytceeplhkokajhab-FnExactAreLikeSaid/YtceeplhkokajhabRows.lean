/-
  No cell of these rows narrows 'for every input' (looked for: loops, veiled, ifaces, maps, wideKeys, modest, calm, conditions, laid).
  DERIVED. THE GIVEN ROWS OF THIS SEAT. 5 by the template 'for every input the law returns true; each argument reads behind the call as it read before'; 0 by the template 'total and deterministic' (their statements: YtceeplhkokajhabTotals.lean).
  GIVEN WITH THE SEED: the statements are not yours to turn. If you find one false, say at which input.
  Laid BY PROGRAM, IN A SANDBOX (cutbox-rows.mjs): the forced cells as the released guide's own fill.sh prints them over the translation 16413099384721fb… (all of the seat's roots in one cut). By AI agents, Wed Nov 11 2026. No macro, syntax, notation, axiom, sorry.
-/
import Derived.Test.YtceeplhkokajhabChecked
import GoSem.Claim
import GoSem.ClaimJoined
import GoSem.ClaimMapViews
import Derived.JoinedTies
import Derived.KernelRfl
namespace Go.Proofs.Ytceeplhkokajhab
/- THE CELL 'sum', in the pinned program and in every row, IS THE sha256 OF THE DUMP (.gsa) THAT YtceeplhkokajhabProg.lean LOADS. Nothing in Lean hashes anything: it is a label: what it is worth is what the hold of that sum in a sandbox is worth. -/
noncomputable def Try.pinned : Pinned := { name := "ytceeplhkokajhab", sum := "16413099384721fb03f21a5c1225600862e0f6d2f05c45ce25a0dbf6c6963235", checked := Try.checked }
namespace Rows
def none {H : Type} : Left H := { results := [], args := [] }

/-- 'laws.FnExactCountSymmetries': WHATEVER THE INPUT: true; the input reads as it did. -/
def fnExactCountSymmetriesSpec : ChangeSpec := { name := "fnExactCountSymmetries", fn := fun _ => fun
  | [d] => { results := [.lit (.bool true)], args := [d] }
  | _ => none }
def fnExactCountSymmetriesRow : OpenClaim := { program := "ytceeplhkokajhab", sum := "16413099384721fb03f21a5c1225600862e0f6d2f05c45ce25a0dbf6c6963235", func := "loop.example/g03205/laws.FnExactCountSymmetries", spec := "fnExactCountSymmetries", unfollowed := true, recurses := true, apart := false }
def FnExactCountSymmetriesSaid : Prop := fnExactCountSymmetriesRow.holds Try.pinned (OpenSpec.ofChange fnExactCountSymmetriesSpec)

/-- ITS FALSE NEIGHBOUR: 'it returns false'. Refute it at one input. -/
def fnExactCountSymmetriesWrong : ChangeSpec := { name := "fnExactCountSymmetries", fn := fun _ => fun
  | [d] => { results := [.lit (.bool false)], args := [d] }
  | _ => none }
def FnExactCountSymmetriesWrongFalsely : Prop := fnExactCountSymmetriesRow.holds Try.pinned (OpenSpec.ofChange fnExactCountSymmetriesWrong)

/-- 'laws.FnExactAreLike': WHATEVER THE INPUT: true; the input reads as it did. -/
def fnExactAreLikeSpec : ChangeSpec := { name := "fnExactAreLike", fn := fun _ => fun
  | [d1, d2] => { results := [.lit (.bool true)], args := [d1, d2] }
  | _ => none }
def fnExactAreLikeRow : OpenClaim := { program := "ytceeplhkokajhab", sum := "16413099384721fb03f21a5c1225600862e0f6d2f05c45ce25a0dbf6c6963235", func := "loop.example/g03205/laws.FnExactAreLike", spec := "fnExactAreLike", unfollowed := true, recurses := true, apart := false }
def FnExactAreLikeSaid : Prop := fnExactAreLikeRow.holds Try.pinned (OpenSpec.ofChange fnExactAreLikeSpec)

/-- ITS FALSE NEIGHBOUR: 'it returns false'. Refute it at one input. -/
def fnExactAreLikeWrong : ChangeSpec := { name := "fnExactAreLike", fn := fun _ => fun
  | [d1, d2] => { results := [.lit (.bool false)], args := [d1, d2] }
  | _ => none }
def FnExactAreLikeWrongFalsely : Prop := fnExactAreLikeRow.holds Try.pinned (OpenSpec.ofChange fnExactAreLikeWrong)

/-- 'laws.FnExactLeastName': WHATEVER THE INPUT: true; the input reads as it did. -/
def fnExactLeastNameSpec : ChangeSpec := { name := "fnExactLeastName", fn := fun _ => fun
  | [d] => { results := [.lit (.bool true)], args := [d] }
  | _ => none }
def fnExactLeastNameRow : OpenClaim := { program := "ytceeplhkokajhab", sum := "16413099384721fb03f21a5c1225600862e0f6d2f05c45ce25a0dbf6c6963235", func := "loop.example/g03205/laws.FnExactLeastName", spec := "fnExactLeastName", unfollowed := true, recurses := true, apart := false }
def FnExactLeastNameSaid : Prop := fnExactLeastNameRow.holds Try.pinned (OpenSpec.ofChange fnExactLeastNameSpec)

/-- ITS FALSE NEIGHBOUR: 'it returns false'. Refute it at one input. -/
def fnExactLeastNameWrong : ChangeSpec := { name := "fnExactLeastName", fn := fun _ => fun
  | [d] => { results := [.lit (.bool false)], args := [d] }
  | _ => none }
def FnExactLeastNameWrongFalsely : Prop := fnExactLeastNameRow.holds Try.pinned (OpenSpec.ofChange fnExactLeastNameWrong)

/-- 'laws.FnExactCountKinds': WHATEVER THE INPUT: true; the input reads as it did. -/
def fnExactCountKindsSpec : ChangeSpec := { name := "fnExactCountKinds", fn := fun _ => fun
  | [d] => { results := [.lit (.bool true)], args := [d] }
  | _ => none }
def fnExactCountKindsRow : OpenClaim := { program := "ytceeplhkokajhab", sum := "16413099384721fb03f21a5c1225600862e0f6d2f05c45ce25a0dbf6c6963235", func := "loop.example/g03205/laws.FnExactCountKinds", spec := "fnExactCountKinds", unfollowed := true, recurses := true, apart := false }
def FnExactCountKindsSaid : Prop := fnExactCountKindsRow.holds Try.pinned (OpenSpec.ofChange fnExactCountKindsSpec)

/-- ITS FALSE NEIGHBOUR: 'it returns false'. Refute it at one input. -/
def fnExactCountKindsWrong : ChangeSpec := { name := "fnExactCountKinds", fn := fun _ => fun
  | [d] => { results := [.lit (.bool false)], args := [d] }
  | _ => none }
def FnExactCountKindsWrongFalsely : Prop := fnExactCountKindsRow.holds Try.pinned (OpenSpec.ofChange fnExactCountKindsWrong)

/-- 'laws.FnSafe': WHATEVER THE INPUT: true; the input reads as it did. -/
def fnSafeSpec : ChangeSpec := { name := "fnSafe", fn := fun _ => fun
  | [d] => { results := [.lit (.bool true)], args := [d] }
  | _ => none }
def fnSafeRow : OpenClaim := { program := "ytceeplhkokajhab", sum := "16413099384721fb03f21a5c1225600862e0f6d2f05c45ce25a0dbf6c6963235", func := "loop.example/g03205/laws.FnSafe", spec := "fnSafe", unfollowed := true, recurses := true, apart := false }
def FnSafeSaid : Prop := fnSafeRow.holds Try.pinned (OpenSpec.ofChange fnSafeSpec)

/-- ITS FALSE NEIGHBOUR: 'it returns false'. Refute it at one input. -/
def fnSafeWrong : ChangeSpec := { name := "fnSafe", fn := fun _ => fun
  | [d] => { results := [.lit (.bool false)], args := [d] }
  | _ => none }
def FnSafeWrongFalsely : Prop := fnSafeRow.holds Try.pinned (OpenSpec.ofChange fnSafeWrong)

/- THE SECOND FORM. 'bulk': how many values and letters a reading holds, each counted each time it is reached (what is shared counts as often as it is met; a slice's spare places count too). A statement '..UptoSaid' is the law's where the arguments, and the package variables that the reading takes, are together of bulk at most 1048576: NARROWER than '..Said'. Prove '..Said' where nothing that the law and all that it calls make is longer than what came in: it says more and counts as full. Else prove '..UptoSaid'. A law counts once. -/
mutual
def uptoBulk {H : Type} : DataW H → Nat
  | .lit (.string bytes) => bytes.length + 1
  | .lit _ => 1
  | .nil => 1
  | .ptr d => uptoBulk d + 1
  | .slice elems spare => uptoBulkAll elems + uptoBulkAll spare + 1
  | .agg parts => uptoBulkAll parts + 1
  | .iface _ d => uptoBulk d + 1
  | .map entries => uptoBulkEntries entries + 1
  | .held _ => 1
def uptoBulkAll {H : Type} : List (DataW H) → Nat
  | [] => 0
  | d :: r => uptoBulk d + uptoBulkAll r
def uptoBulkEntries {H : Type} : List (Lit × DataW H) → Nat
  | [] => 0
  | x :: r => uptoBulkEntry x + uptoBulkEntries r
def uptoBulkEntry {H : Type} : Lit × DataW H → Nat
  | (.string bytes, d) => bytes.length + uptoBulk d + 1
  | (_, d) => uptoBulk d + 1
 end
def uptoSmall : (H : Type) → List (DataW H) → Bool := fun _ ds => decide (uptoBulkAll ds ≤ 1048576)
def OpenSpec.upto (s : _root_.Go.ChangeSpec) : _root_.Go.OpenSpec := { _root_.Go.OpenSpec.ofChange s with cond := some uptoSmall }

/-- 'laws.FnExactCountSymmetries', WHERE WHAT IT READS IS OF BULK AT MOST 1048576: true; the input reads as it did. -/
def fnExactCountSymmetriesUptoRow : OpenClaim := { program := "ytceeplhkokajhab", sum := "16413099384721fb03f21a5c1225600862e0f6d2f05c45ce25a0dbf6c6963235", func := "loop.example/g03205/laws.FnExactCountSymmetries", spec := "fnExactCountSymmetries", unfollowed := true, recurses := true, apart := false, narrowed := true }
def FnExactCountSymmetriesUptoSaid : Prop := fnExactCountSymmetriesUptoRow.holds Try.pinned (OpenSpec.upto fnExactCountSymmetriesSpec)

/-- 'laws.FnExactAreLike', WHERE WHAT IT READS IS OF BULK AT MOST 1048576: true; the input reads as it did. -/
def fnExactAreLikeUptoRow : OpenClaim := { program := "ytceeplhkokajhab", sum := "16413099384721fb03f21a5c1225600862e0f6d2f05c45ce25a0dbf6c6963235", func := "loop.example/g03205/laws.FnExactAreLike", spec := "fnExactAreLike", unfollowed := true, recurses := true, apart := false, narrowed := true }
def FnExactAreLikeUptoSaid : Prop := fnExactAreLikeUptoRow.holds Try.pinned (OpenSpec.upto fnExactAreLikeSpec)

/-- 'laws.FnExactLeastName', WHERE WHAT IT READS IS OF BULK AT MOST 1048576: true; the input reads as it did. -/
def fnExactLeastNameUptoRow : OpenClaim := { program := "ytceeplhkokajhab", sum := "16413099384721fb03f21a5c1225600862e0f6d2f05c45ce25a0dbf6c6963235", func := "loop.example/g03205/laws.FnExactLeastName", spec := "fnExactLeastName", unfollowed := true, recurses := true, apart := false, narrowed := true }
def FnExactLeastNameUptoSaid : Prop := fnExactLeastNameUptoRow.holds Try.pinned (OpenSpec.upto fnExactLeastNameSpec)

/-- 'laws.FnExactCountKinds', WHERE WHAT IT READS IS OF BULK AT MOST 1048576: true; the input reads as it did. -/
def fnExactCountKindsUptoRow : OpenClaim := { program := "ytceeplhkokajhab", sum := "16413099384721fb03f21a5c1225600862e0f6d2f05c45ce25a0dbf6c6963235", func := "loop.example/g03205/laws.FnExactCountKinds", spec := "fnExactCountKinds", unfollowed := true, recurses := true, apart := false, narrowed := true }
def FnExactCountKindsUptoSaid : Prop := fnExactCountKindsUptoRow.holds Try.pinned (OpenSpec.upto fnExactCountKindsSpec)

/-- 'laws.FnSafe', WHERE WHAT IT READS IS OF BULK AT MOST 1048576: true; the input reads as it did. -/
def fnSafeUptoRow : OpenClaim := { program := "ytceeplhkokajhab", sum := "16413099384721fb03f21a5c1225600862e0f6d2f05c45ce25a0dbf6c6963235", func := "loop.example/g03205/laws.FnSafe", spec := "fnSafe", unfollowed := true, recurses := true, apart := false, narrowed := true }
def FnSafeUptoSaid : Prop := fnSafeUptoRow.holds Try.pinned (OpenSpec.upto fnSafeSpec)

end Rows
end Go.Proofs.Ytceeplhkokajhab
