/-
  No cell of these rows narrows 'for every input' (looked for: loops, veiled, ifaces, maps, wideKeys, modest, calm, conditions, laid).
  DERIVED. THE GIVEN ROWS OF THIS SEAT. 12 by the template 'for every input the law returns true; each argument reads behind the call as it read before'; 0 by the template 'total and deterministic' (their statements: YtoblhnfnjagajaaTotals.lean).
  GIVEN WITH THE SEED: the statements are not yours to turn. If you find one false, say at which input.
  Laid BY PROGRAM, IN A SANDBOX (cutbox-rows.mjs): the forced cells as the released guide's own fill.sh prints them over the translation ad7c974bcd1ff72d… (all of the seat's roots in one cut). By AI agents, Wed Nov 11 2026. No macro, syntax, notation, axiom, sorry.
-/
import Derived.Test.YtoblhnfnjagajaaChecked
import GoSem.Claim
import GoSem.ClaimJoined
import GoSem.ClaimMapViews
import Derived.JoinedTies
import Derived.KernelRfl
namespace Go.Proofs.Ytoblhnfnjagajaa
/- THE CELL 'sum', in the pinned program and in every row, IS THE sha256 OF THE DUMP (.gsa) THAT YtoblhnfnjagajaaProg.lean LOADS. Nothing in Lean hashes anything: it is a label: what it is worth is what the hold of that sum in a sandbox is worth. -/
noncomputable def Try.pinned : Pinned := { name := "ytoblhnfnjagajaa", sum := "ad7c974bcd1ff72dcb1362c2bd4c3ffa01c272175350341873a4231e3bcb6cf7", checked := Try.checked }
namespace Rows
def none {H : Type} : Left H := { results := [], args := [] }

/-- 'laws.FnExactAmongClubs': WHATEVER THE INPUT: true; the input reads as it did. -/
def fnExactAmongClubsSpec : ChangeSpec := { name := "fnExactAmongClubs", fn := fun _ => fun
  | [d1, d2] => { results := [.lit (.bool true)], args := [d1, d2] }
  | _ => none }
def fnExactAmongClubsRow : OpenClaim := { program := "ytoblhnfnjagajaa", sum := "ad7c974bcd1ff72dcb1362c2bd4c3ffa01c272175350341873a4231e3bcb6cf7", func := "loop.example/g03205/laws.FnExactAmongClubs", spec := "fnExactAmongClubs", unfollowed := true, recurses := true, apart := false }
def FnExactAmongClubsSaid : Prop := fnExactAmongClubsRow.holds Try.pinned (OpenSpec.ofChange fnExactAmongClubsSpec)

/-- ITS FALSE NEIGHBOUR: 'it returns false'. Refute it at one input. -/
def fnExactAmongClubsWrong : ChangeSpec := { name := "fnExactAmongClubs", fn := fun _ => fun
  | [d1, d2] => { results := [.lit (.bool false)], args := [d1, d2] }
  | _ => none }
def FnExactAmongClubsWrongFalsely : Prop := fnExactAmongClubsRow.holds Try.pinned (OpenSpec.ofChange fnExactAmongClubsWrong)

/-- 'laws.FnExactAddResult': WHATEVER THE INPUT: true; the input reads as it did. -/
def fnExactAddResultSpec : ChangeSpec := { name := "fnExactAddResult", fn := fun _ => fun
  | [d1, d2] => { results := [.lit (.bool true)], args := [d1, d2] }
  | _ => none }
def fnExactAddResultRow : OpenClaim := { program := "ytoblhnfnjagajaa", sum := "ad7c974bcd1ff72dcb1362c2bd4c3ffa01c272175350341873a4231e3bcb6cf7", func := "loop.example/g03205/laws.FnExactAddResult", spec := "fnExactAddResult", unfollowed := true, recurses := true, apart := false }
def FnExactAddResultSaid : Prop := fnExactAddResultRow.holds Try.pinned (OpenSpec.ofChange fnExactAddResultSpec)

/-- ITS FALSE NEIGHBOUR: 'it returns false'. Refute it at one input. -/
def fnExactAddResultWrong : ChangeSpec := { name := "fnExactAddResult", fn := fun _ => fun
  | [d1, d2] => { results := [.lit (.bool false)], args := [d1, d2] }
  | _ => none }
def FnExactAddResultWrongFalsely : Prop := fnExactAddResultRow.holds Try.pinned (OpenSpec.ofChange fnExactAddResultWrong)

/-- 'laws.FnExactRestOf': WHATEVER THE INPUT: true; the input reads as it did. -/
def fnExactRestOfSpec : ChangeSpec := { name := "fnExactRestOf", fn := fun _ => fun
  | [d1, d2] => { results := [.lit (.bool true)], args := [d1, d2] }
  | _ => none }
def fnExactRestOfRow : OpenClaim := { program := "ytoblhnfnjagajaa", sum := "ad7c974bcd1ff72dcb1362c2bd4c3ffa01c272175350341873a4231e3bcb6cf7", func := "loop.example/g03205/laws.FnExactRestOf", spec := "fnExactRestOf", unfollowed := true, recurses := true, apart := false }
def FnExactRestOfSaid : Prop := fnExactRestOfRow.holds Try.pinned (OpenSpec.ofChange fnExactRestOfSpec)

/-- ITS FALSE NEIGHBOUR: 'it returns false'. Refute it at one input. -/
def fnExactRestOfWrong : ChangeSpec := { name := "fnExactRestOf", fn := fun _ => fun
  | [d1, d2] => { results := [.lit (.bool false)], args := [d1, d2] }
  | _ => none }
def FnExactRestOfWrongFalsely : Prop := fnExactRestOfRow.holds Try.pinned (OpenSpec.ofChange fnExactRestOfWrong)

/-- 'laws.FnExactTableOf': WHATEVER THE INPUT: true; the input reads as it did. -/
def fnExactTableOfSpec : ChangeSpec := { name := "fnExactTableOf", fn := fun _ => fun
  | [d] => { results := [.lit (.bool true)], args := [d] }
  | _ => none }
def fnExactTableOfRow : OpenClaim := { program := "ytoblhnfnjagajaa", sum := "ad7c974bcd1ff72dcb1362c2bd4c3ffa01c272175350341873a4231e3bcb6cf7", func := "loop.example/g03205/laws.FnExactTableOf", spec := "fnExactTableOf", unfollowed := true, recurses := true, apart := false }
def FnExactTableOfSaid : Prop := fnExactTableOfRow.holds Try.pinned (OpenSpec.ofChange fnExactTableOfSpec)

/-- ITS FALSE NEIGHBOUR: 'it returns false'. Refute it at one input. -/
def fnExactTableOfWrong : ChangeSpec := { name := "fnExactTableOf", fn := fun _ => fun
  | [d] => { results := [.lit (.bool false)], args := [d] }
  | _ => none }
def FnExactTableOfWrongFalsely : Prop := fnExactTableOfRow.holds Try.pinned (OpenSpec.ofChange fnExactTableOfWrong)

/-- 'laws.FnLeagues': WHATEVER THE INPUT: true; the input reads as it did. -/
def fnLeaguesSpec : ChangeSpec := { name := "fnLeagues", fn := fun _ => fun
  | [d] => { results := [.lit (.bool true)], args := [d] }
  | _ => none }
def fnLeaguesRow : OpenClaim := { program := "ytoblhnfnjagajaa", sum := "ad7c974bcd1ff72dcb1362c2bd4c3ffa01c272175350341873a4231e3bcb6cf7", func := "loop.example/g03205/laws.FnLeagues", spec := "fnLeagues", unfollowed := true, recurses := true, apart := false }
def FnLeaguesSaid : Prop := fnLeaguesRow.holds Try.pinned (OpenSpec.ofChange fnLeaguesSpec)

/-- ITS FALSE NEIGHBOUR: 'it returns false'. Refute it at one input. -/
def fnLeaguesWrong : ChangeSpec := { name := "fnLeagues", fn := fun _ => fun
  | [d] => { results := [.lit (.bool false)], args := [d] }
  | _ => none }
def FnLeaguesWrongFalsely : Prop := fnLeaguesRow.holds Try.pinned (OpenSpec.ofChange fnLeaguesWrong)

/-- 'laws.FnExactFlipGame': WHATEVER THE INPUT: true; the input reads as it did. -/
def fnExactFlipGameSpec : ChangeSpec := { name := "fnExactFlipGame", fn := fun _ => fun
  | [d1, d2, d3] => { results := [.lit (.bool true)], args := [d1, d2, d3] }
  | _ => none }
def fnExactFlipGameRow : OpenClaim := { program := "ytoblhnfnjagajaa", sum := "ad7c974bcd1ff72dcb1362c2bd4c3ffa01c272175350341873a4231e3bcb6cf7", func := "loop.example/g03205/laws.FnExactFlipGame", spec := "fnExactFlipGame", unfollowed := true, recurses := true, apart := false }
def FnExactFlipGameSaid : Prop := fnExactFlipGameRow.holds Try.pinned (OpenSpec.ofChange fnExactFlipGameSpec)

/-- ITS FALSE NEIGHBOUR: 'it returns false'. Refute it at one input. -/
def fnExactFlipGameWrong : ChangeSpec := { name := "fnExactFlipGame", fn := fun _ => fun
  | [d1, d2, d3] => { results := [.lit (.bool false)], args := [d1, d2, d3] }
  | _ => none }
def FnExactFlipGameWrongFalsely : Prop := fnExactFlipGameRow.holds Try.pinned (OpenSpec.ofChange fnExactFlipGameWrong)

/-- 'laws.FnExactRotationalTour': WHATEVER THE INPUT: true; the input reads as it did. -/
def fnExactRotationalTourSpec : ChangeSpec := { name := "fnExactRotationalTour", fn := fun _ => fun
  | [d1, d2] => { results := [.lit (.bool true)], args := [d1, d2] }
  | _ => none }
def fnExactRotationalTourRow : OpenClaim := { program := "ytoblhnfnjagajaa", sum := "ad7c974bcd1ff72dcb1362c2bd4c3ffa01c272175350341873a4231e3bcb6cf7", func := "loop.example/g03205/laws.FnExactRotationalTour", spec := "fnExactRotationalTour", unfollowed := true, recurses := true, apart := false }
def FnExactRotationalTourSaid : Prop := fnExactRotationalTourRow.holds Try.pinned (OpenSpec.ofChange fnExactRotationalTourSpec)

/-- ITS FALSE NEIGHBOUR: 'it returns false'. Refute it at one input. -/
def fnExactRotationalTourWrong : ChangeSpec := { name := "fnExactRotationalTour", fn := fun _ => fun
  | [d1, d2] => { results := [.lit (.bool false)], args := [d1, d2] }
  | _ => none }
def FnExactRotationalTourWrongFalsely : Prop := fnExactRotationalTourRow.holds Try.pinned (OpenSpec.ofChange fnExactRotationalTourWrong)

/-- 'laws.FnExactSquareTour': WHATEVER THE INPUT: true; the input reads as it did. -/
def fnExactSquareTourSpec : ChangeSpec := { name := "fnExactSquareTour", fn := fun _ => fun
  | [d] => { results := [.lit (.bool true)], args := [d] }
  | _ => none }
def fnExactSquareTourRow : OpenClaim := { program := "ytoblhnfnjagajaa", sum := "ad7c974bcd1ff72dcb1362c2bd4c3ffa01c272175350341873a4231e3bcb6cf7", func := "loop.example/g03205/laws.FnExactSquareTour", spec := "fnExactSquareTour", unfollowed := true, recurses := true, apart := false }
def FnExactSquareTourSaid : Prop := fnExactSquareTourRow.holds Try.pinned (OpenSpec.ofChange fnExactSquareTourSpec)

/-- ITS FALSE NEIGHBOUR: 'it returns false'. Refute it at one input. -/
def fnExactSquareTourWrong : ChangeSpec := { name := "fnExactSquareTour", fn := fun _ => fun
  | [d] => { results := [.lit (.bool false)], args := [d] }
  | _ => none }
def FnExactSquareTourWrongFalsely : Prop := fnExactSquareTourRow.holds Try.pinned (OpenSpec.ofChange fnExactSquareTourWrong)

/-- 'laws.FnExactIsRotational': WHATEVER THE INPUT: true; the input reads as it did. -/
def fnExactIsRotationalSpec : ChangeSpec := { name := "fnExactIsRotational", fn := fun _ => fun
  | [d] => { results := [.lit (.bool true)], args := [d] }
  | _ => none }
def fnExactIsRotationalRow : OpenClaim := { program := "ytoblhnfnjagajaa", sum := "ad7c974bcd1ff72dcb1362c2bd4c3ffa01c272175350341873a4231e3bcb6cf7", func := "loop.example/g03205/laws.FnExactIsRotational", spec := "fnExactIsRotational", unfollowed := true, recurses := true, apart := false }
def FnExactIsRotationalSaid : Prop := fnExactIsRotationalRow.holds Try.pinned (OpenSpec.ofChange fnExactIsRotationalSpec)

/-- ITS FALSE NEIGHBOUR: 'it returns false'. Refute it at one input. -/
def fnExactIsRotationalWrong : ChangeSpec := { name := "fnExactIsRotational", fn := fun _ => fun
  | [d] => { results := [.lit (.bool false)], args := [d] }
  | _ => none }
def FnExactIsRotationalWrongFalsely : Prop := fnExactIsRotationalRow.holds Try.pinned (OpenSpec.ofChange fnExactIsRotationalWrong)

/-- 'laws.FnExactPowerScores': WHATEVER THE INPUT: true; the input reads as it did. -/
def fnExactPowerScoresSpec : ChangeSpec := { name := "fnExactPowerScores", fn := fun _ => fun
  | [d1, d2] => { results := [.lit (.bool true)], args := [d1, d2] }
  | _ => none }
def fnExactPowerScoresRow : OpenClaim := { program := "ytoblhnfnjagajaa", sum := "ad7c974bcd1ff72dcb1362c2bd4c3ffa01c272175350341873a4231e3bcb6cf7", func := "loop.example/g03205/laws.FnExactPowerScores", spec := "fnExactPowerScores", unfollowed := true, recurses := true, apart := false }
def FnExactPowerScoresSaid : Prop := fnExactPowerScoresRow.holds Try.pinned (OpenSpec.ofChange fnExactPowerScoresSpec)

/-- ITS FALSE NEIGHBOUR: 'it returns false'. Refute it at one input. -/
def fnExactPowerScoresWrong : ChangeSpec := { name := "fnExactPowerScores", fn := fun _ => fun
  | [d1, d2] => { results := [.lit (.bool false)], args := [d1, d2] }
  | _ => none }
def FnExactPowerScoresWrongFalsely : Prop := fnExactPowerScoresRow.holds Try.pinned (OpenSpec.ofChange fnExactPowerScoresWrong)

/-- 'laws.FnExactSecondScores': WHATEVER THE INPUT: true; the input reads as it did. -/
def fnExactSecondScoresSpec : ChangeSpec := { name := "fnExactSecondScores", fn := fun _ => fun
  | [d] => { results := [.lit (.bool true)], args := [d] }
  | _ => none }
def fnExactSecondScoresRow : OpenClaim := { program := "ytoblhnfnjagajaa", sum := "ad7c974bcd1ff72dcb1362c2bd4c3ffa01c272175350341873a4231e3bcb6cf7", func := "loop.example/g03205/laws.FnExactSecondScores", spec := "fnExactSecondScores", unfollowed := true, recurses := true, apart := false }
def FnExactSecondScoresSaid : Prop := fnExactSecondScoresRow.holds Try.pinned (OpenSpec.ofChange fnExactSecondScoresSpec)

/-- ITS FALSE NEIGHBOUR: 'it returns false'. Refute it at one input. -/
def fnExactSecondScoresWrong : ChangeSpec := { name := "fnExactSecondScores", fn := fun _ => fun
  | [d] => { results := [.lit (.bool false)], args := [d] }
  | _ => none }
def FnExactSecondScoresWrongFalsely : Prop := fnExactSecondScoresRow.holds Try.pinned (OpenSpec.ofChange fnExactSecondScoresWrong)

/-- 'laws.FnExactTrianglesAt': WHATEVER THE INPUT: true; the input reads as it did. -/
def fnExactTrianglesAtSpec : ChangeSpec := { name := "fnExactTrianglesAt", fn := fun _ => fun
  | [d1, d2] => { results := [.lit (.bool true)], args := [d1, d2] }
  | _ => none }
def fnExactTrianglesAtRow : OpenClaim := { program := "ytoblhnfnjagajaa", sum := "ad7c974bcd1ff72dcb1362c2bd4c3ffa01c272175350341873a4231e3bcb6cf7", func := "loop.example/g03205/laws.FnExactTrianglesAt", spec := "fnExactTrianglesAt", unfollowed := true, recurses := true, apart := false }
def FnExactTrianglesAtSaid : Prop := fnExactTrianglesAtRow.holds Try.pinned (OpenSpec.ofChange fnExactTrianglesAtSpec)

/-- ITS FALSE NEIGHBOUR: 'it returns false'. Refute it at one input. -/
def fnExactTrianglesAtWrong : ChangeSpec := { name := "fnExactTrianglesAt", fn := fun _ => fun
  | [d1, d2] => { results := [.lit (.bool false)], args := [d1, d2] }
  | _ => none }
def FnExactTrianglesAtWrongFalsely : Prop := fnExactTrianglesAtRow.holds Try.pinned (OpenSpec.ofChange fnExactTrianglesAtWrong)

/- THE SECOND FORM. 'bulk': how many values and letters a reading holds, each counted each time it is reached (what is shared counts as often as it is met; a slice's spare places count too). A statement '..UptoSaid' is the law's where the arguments, and the package variables that the reading takes, are together of bulk at most 1048576: NARROWER than '..Said'. Prove '..Said' where nothing that the law and all that it calls make is longer than what came in: it says more and counts as full. Else prove '..UptoSaid'. A law counts once. -/
mutual
def uptoBulk {H : Type} : DataW H → Nat
  | .lit (.string bytes) => bytes.length + 1
  | .lit _ => 1
  | .nil => 1
  | .ptr d => uptoBulk d + 1
  | .slice elems spare => uptoBulkAll elems + uptoBulkAll spare + 1
  | .agg parts => uptoBulkAll parts + 1
  | .iface _ d => uptoBulk d + 1
  | .map entries => uptoBulkEntries entries + 1
  | .held _ => 1
def uptoBulkAll {H : Type} : List (DataW H) → Nat
  | [] => 0
  | d :: r => uptoBulk d + uptoBulkAll r
def uptoBulkEntries {H : Type} : List (Lit × DataW H) → Nat
  | [] => 0
  | x :: r => uptoBulkEntry x + uptoBulkEntries r
def uptoBulkEntry {H : Type} : Lit × DataW H → Nat
  | (.string bytes, d) => bytes.length + uptoBulk d + 1
  | (_, d) => uptoBulk d + 1
 end
def uptoSmall : (H : Type) → List (DataW H) → Bool := fun _ ds => decide (uptoBulkAll ds ≤ 1048576)
def OpenSpec.upto (s : _root_.Go.ChangeSpec) : _root_.Go.OpenSpec := { _root_.Go.OpenSpec.ofChange s with cond := some uptoSmall }

/-- 'laws.FnExactAmongClubs', WHERE WHAT IT READS IS OF BULK AT MOST 1048576: true; the input reads as it did. -/
def fnExactAmongClubsUptoRow : OpenClaim := { program := "ytoblhnfnjagajaa", sum := "ad7c974bcd1ff72dcb1362c2bd4c3ffa01c272175350341873a4231e3bcb6cf7", func := "loop.example/g03205/laws.FnExactAmongClubs", spec := "fnExactAmongClubs", unfollowed := true, recurses := true, apart := false, narrowed := true }
def FnExactAmongClubsUptoSaid : Prop := fnExactAmongClubsUptoRow.holds Try.pinned (OpenSpec.upto fnExactAmongClubsSpec)

/-- 'laws.FnExactAddResult', WHERE WHAT IT READS IS OF BULK AT MOST 1048576: true; the input reads as it did. -/
def fnExactAddResultUptoRow : OpenClaim := { program := "ytoblhnfnjagajaa", sum := "ad7c974bcd1ff72dcb1362c2bd4c3ffa01c272175350341873a4231e3bcb6cf7", func := "loop.example/g03205/laws.FnExactAddResult", spec := "fnExactAddResult", unfollowed := true, recurses := true, apart := false, narrowed := true }
def FnExactAddResultUptoSaid : Prop := fnExactAddResultUptoRow.holds Try.pinned (OpenSpec.upto fnExactAddResultSpec)

/-- 'laws.FnExactRestOf', WHERE WHAT IT READS IS OF BULK AT MOST 1048576: true; the input reads as it did. -/
def fnExactRestOfUptoRow : OpenClaim := { program := "ytoblhnfnjagajaa", sum := "ad7c974bcd1ff72dcb1362c2bd4c3ffa01c272175350341873a4231e3bcb6cf7", func := "loop.example/g03205/laws.FnExactRestOf", spec := "fnExactRestOf", unfollowed := true, recurses := true, apart := false, narrowed := true }
def FnExactRestOfUptoSaid : Prop := fnExactRestOfUptoRow.holds Try.pinned (OpenSpec.upto fnExactRestOfSpec)

/-- 'laws.FnExactTableOf', WHERE WHAT IT READS IS OF BULK AT MOST 1048576: true; the input reads as it did. -/
def fnExactTableOfUptoRow : OpenClaim := { program := "ytoblhnfnjagajaa", sum := "ad7c974bcd1ff72dcb1362c2bd4c3ffa01c272175350341873a4231e3bcb6cf7", func := "loop.example/g03205/laws.FnExactTableOf", spec := "fnExactTableOf", unfollowed := true, recurses := true, apart := false, narrowed := true }
def FnExactTableOfUptoSaid : Prop := fnExactTableOfUptoRow.holds Try.pinned (OpenSpec.upto fnExactTableOfSpec)

/-- 'laws.FnLeagues', WHERE WHAT IT READS IS OF BULK AT MOST 1048576: true; the input reads as it did. -/
def fnLeaguesUptoRow : OpenClaim := { program := "ytoblhnfnjagajaa", sum := "ad7c974bcd1ff72dcb1362c2bd4c3ffa01c272175350341873a4231e3bcb6cf7", func := "loop.example/g03205/laws.FnLeagues", spec := "fnLeagues", unfollowed := true, recurses := true, apart := false, narrowed := true }
def FnLeaguesUptoSaid : Prop := fnLeaguesUptoRow.holds Try.pinned (OpenSpec.upto fnLeaguesSpec)

/-- 'laws.FnExactFlipGame', WHERE WHAT IT READS IS OF BULK AT MOST 1048576: true; the input reads as it did. -/
def fnExactFlipGameUptoRow : OpenClaim := { program := "ytoblhnfnjagajaa", sum := "ad7c974bcd1ff72dcb1362c2bd4c3ffa01c272175350341873a4231e3bcb6cf7", func := "loop.example/g03205/laws.FnExactFlipGame", spec := "fnExactFlipGame", unfollowed := true, recurses := true, apart := false, narrowed := true }
def FnExactFlipGameUptoSaid : Prop := fnExactFlipGameUptoRow.holds Try.pinned (OpenSpec.upto fnExactFlipGameSpec)

/-- 'laws.FnExactRotationalTour', WHERE WHAT IT READS IS OF BULK AT MOST 1048576: true; the input reads as it did. -/
def fnExactRotationalTourUptoRow : OpenClaim := { program := "ytoblhnfnjagajaa", sum := "ad7c974bcd1ff72dcb1362c2bd4c3ffa01c272175350341873a4231e3bcb6cf7", func := "loop.example/g03205/laws.FnExactRotationalTour", spec := "fnExactRotationalTour", unfollowed := true, recurses := true, apart := false, narrowed := true }
def FnExactRotationalTourUptoSaid : Prop := fnExactRotationalTourUptoRow.holds Try.pinned (OpenSpec.upto fnExactRotationalTourSpec)

/-- 'laws.FnExactSquareTour', WHERE WHAT IT READS IS OF BULK AT MOST 1048576: true; the input reads as it did. -/
def fnExactSquareTourUptoRow : OpenClaim := { program := "ytoblhnfnjagajaa", sum := "ad7c974bcd1ff72dcb1362c2bd4c3ffa01c272175350341873a4231e3bcb6cf7", func := "loop.example/g03205/laws.FnExactSquareTour", spec := "fnExactSquareTour", unfollowed := true, recurses := true, apart := false, narrowed := true }
def FnExactSquareTourUptoSaid : Prop := fnExactSquareTourUptoRow.holds Try.pinned (OpenSpec.upto fnExactSquareTourSpec)

/-- 'laws.FnExactIsRotational', WHERE WHAT IT READS IS OF BULK AT MOST 1048576: true; the input reads as it did. -/
def fnExactIsRotationalUptoRow : OpenClaim := { program := "ytoblhnfnjagajaa", sum := "ad7c974bcd1ff72dcb1362c2bd4c3ffa01c272175350341873a4231e3bcb6cf7", func := "loop.example/g03205/laws.FnExactIsRotational", spec := "fnExactIsRotational", unfollowed := true, recurses := true, apart := false, narrowed := true }
def FnExactIsRotationalUptoSaid : Prop := fnExactIsRotationalUptoRow.holds Try.pinned (OpenSpec.upto fnExactIsRotationalSpec)

/-- 'laws.FnExactPowerScores', WHERE WHAT IT READS IS OF BULK AT MOST 1048576: true; the input reads as it did. -/
def fnExactPowerScoresUptoRow : OpenClaim := { program := "ytoblhnfnjagajaa", sum := "ad7c974bcd1ff72dcb1362c2bd4c3ffa01c272175350341873a4231e3bcb6cf7", func := "loop.example/g03205/laws.FnExactPowerScores", spec := "fnExactPowerScores", unfollowed := true, recurses := true, apart := false, narrowed := true }
def FnExactPowerScoresUptoSaid : Prop := fnExactPowerScoresUptoRow.holds Try.pinned (OpenSpec.upto fnExactPowerScoresSpec)

/-- 'laws.FnExactSecondScores', WHERE WHAT IT READS IS OF BULK AT MOST 1048576: true; the input reads as it did. -/
def fnExactSecondScoresUptoRow : OpenClaim := { program := "ytoblhnfnjagajaa", sum := "ad7c974bcd1ff72dcb1362c2bd4c3ffa01c272175350341873a4231e3bcb6cf7", func := "loop.example/g03205/laws.FnExactSecondScores", spec := "fnExactSecondScores", unfollowed := true, recurses := true, apart := false, narrowed := true }
def FnExactSecondScoresUptoSaid : Prop := fnExactSecondScoresUptoRow.holds Try.pinned (OpenSpec.upto fnExactSecondScoresSpec)

/-- 'laws.FnExactTrianglesAt', WHERE WHAT IT READS IS OF BULK AT MOST 1048576: true; the input reads as it did. -/
def fnExactTrianglesAtUptoRow : OpenClaim := { program := "ytoblhnfnjagajaa", sum := "ad7c974bcd1ff72dcb1362c2bd4c3ffa01c272175350341873a4231e3bcb6cf7", func := "loop.example/g03205/laws.FnExactTrianglesAt", spec := "fnExactTrianglesAt", unfollowed := true, recurses := true, apart := false, narrowed := true }
def FnExactTrianglesAtUptoSaid : Prop := fnExactTrianglesAtUptoRow.holds Try.pinned (OpenSpec.upto fnExactTrianglesAtSpec)

end Rows
end Go.Proofs.Ytoblhnfnjagajaa
