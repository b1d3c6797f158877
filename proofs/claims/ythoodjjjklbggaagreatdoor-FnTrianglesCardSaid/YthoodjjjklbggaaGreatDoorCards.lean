/-
  DERIVED. GIVEN WITH THE SEED: THE CARDS: each row of YthoodjjjklbggaaGreatDoorRows.lean that lists a variable, with what it lists TIED to the program's text (the seventh form; the later family's looks); each row that meets fmt, with fmt's text TOLD by the authors' own Lean function (tested against real Go, not proved from fmt's source: count such statements apart). THE CARD IS WHAT COUNTS. Prove the row's statement (the work); the ties are given (YthoodjjjklbggaaGreatDoorTie.lean); close each card by the builder's one call (the guide's Derived/Test/ToyasCard.lean, 'card_holds'). Laid BY PROGRAM, IN A SANDBOX (cutbox-door.mjs). By AI agents, Wed Nov 11 2026. No macro, syntax, notation, axiom, sorry.
-/
import Derived.Test.YthoodjjjklbggaaGreatDoorRows
import GoSem.ClaimSeven
namespace Go.Proofs.YthoodjjjklbggaaGreatDoor
namespace Rows

/-- THE TIED CARD OF 'laws.FnTriangles'. -/
def fnTrianglesCard : Claim7 := { stood := { row := fnTrianglesRow, standIns := [], harness := (true, "77326e5ddfd119e433e4e124f17d7e1ffe9a87499e0f7599fee2d2f86ed9458b"), looks := false }, kinds := [], alts := [], laidByText := true, laidKinds := [.data, .data, .data], laidTests := true, laidLooks := .later }
def FnTrianglesCardSaid : Prop := Claim7.holds Tryz.pinned (.plain (OpenSpec.ofChange fnTrianglesSpec)) fnTrianglesCard

/-- THE SECOND FORM's CARD OF 'laws.FnTriangles'. -/
def fnTrianglesUptoCard : Claim7 := { stood := { row := fnTrianglesUptoRow, standIns := [], harness := (true, "77326e5ddfd119e433e4e124f17d7e1ffe9a87499e0f7599fee2d2f86ed9458b"), looks := false }, kinds := [], alts := [], laidByText := true, laidKinds := [.data, .data, .data], laidTests := true, laidLooks := .later }
def FnTrianglesUptoCardSaid : Prop := Claim7.holds Tryz.pinned (.plain (OpenSpec.upto fnTrianglesSpec)) fnTrianglesUptoCard
end Rows
end Go.Proofs.YthoodjjjklbggaaGreatDoor
