/-
  DERIVED. GIVEN WITH THE SEED: THE CARDS: each row of YthoodjjjklbggaaDoorRows.lean that lists a variable, with what it lists TIED to the program's text (the seventh form; the later family's looks); each row that meets fmt, with fmt's text TOLD by the authors' own Lean function (tested against real Go, not proved from fmt's source: count such statements apart). THE CARD IS WHAT COUNTS. Prove the row's statement (the work); the ties are given (YthoodjjjklbggaaDoorTie.lean); close each card by the builder's one call (the guide's Derived/Test/ToyasCard.lean, 'card_holds'). Laid BY PROGRAM, IN A SANDBOX (cutbox-door.mjs). By AI agents, Wed Nov 11 2026. No macro, syntax, notation, axiom, sorry.
-/
import Derived.Test.YthoodjjjklbggaaDoorRows
import GoSem.ClaimSeven
namespace Go.Proofs.YthoodjjjklbggaaDoor
namespace Rows

/-- THE TIED CARD OF 'laws.FnRotational'. -/
def fnRotationalCard : Claim7 := { stood := { row := fnRotationalRow, standIns := [], harness := (true, "60a25700c9df3c3ece5f1199c5c572bbce136418aeb3a22b9a7e33bbb13070cf"), looks := false }, kinds := [], alts := [], laidByText := true, laidKinds := [.data, .data, .data], laidTests := true, laidLooks := .later }
def FnRotationalCardSaid : Prop := Claim7.holds Tryd.pinned (.plain (OpenSpec.ofChange fnRotationalSpec)) fnRotationalCard

/-- THE SECOND FORM's CARD OF 'laws.FnRotational'. -/
def fnRotationalUptoCard : Claim7 := { stood := { row := fnRotationalUptoRow, standIns := [], harness := (true, "60a25700c9df3c3ece5f1199c5c572bbce136418aeb3a22b9a7e33bbb13070cf"), looks := false }, kinds := [], alts := [], laidByText := true, laidKinds := [.data, .data, .data], laidTests := true, laidLooks := .later }
def FnRotationalUptoCardSaid : Prop := Claim7.holds Tryd.pinned (.plain (OpenSpec.upto fnRotationalSpec)) fnRotationalUptoCard
end Rows
end Go.Proofs.YthoodjjjklbggaaDoor
