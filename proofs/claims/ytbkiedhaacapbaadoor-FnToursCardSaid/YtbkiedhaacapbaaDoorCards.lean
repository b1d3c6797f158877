/-
  DERIVED. GIVEN WITH THE SEED: THE CARDS: each row of YtbkiedhaacapbaaDoorRows.lean that lists a variable, with what it lists TIED to the program's text (the seventh form; the later family's looks); each row that meets fmt, with fmt's text TOLD by the authors' own Lean function (tested against real Go, not proved from fmt's source: count such statements apart). THE CARD IS WHAT COUNTS. Prove the row's statement (the work); the ties are given (YtbkiedhaacapbaaDoorTie.lean); close each card by the builder's one call (the guide's Derived/Test/ToyasCard.lean, 'card_holds'). Laid BY PROGRAM, IN A SANDBOX (cutbox-door.mjs). By AI agents, Wed Nov 11 2026. No macro, syntax, notation, axiom, sorry.
-/
import Derived.Test.YtbkiedhaacapbaaDoorRows
import GoSem.ClaimSeven
namespace Go.Proofs.YtbkiedhaacapbaaDoor
namespace Rows

/-- THE TIED CARD OF 'laws.FnRotational'. -/
def fnRotationalCard : Claim7 := { stood := { row := fnRotationalRow, standIns := [], harness := (true, "29ac54947346afe74105849d13b8b5e9ab4dc01e45f5b4a9599cd72e935654f0"), looks := true }, kinds := [], alts := [], laidByText := true, laidKinds := [.data, .data, .data], laidTests := true, laidLooks := .later }
def FnRotationalCardSaid : Prop := Claim7.holds Tryd.pinned (.plain (OpenSpec.ofChange fnRotationalSpec)) fnRotationalCard

/-- THE TIED CARD OF 'laws.FnTours'. -/
def fnToursCard : Claim7 := { stood := { row := fnToursRow, standIns := [], harness := (true, "29ac54947346afe74105849d13b8b5e9ab4dc01e45f5b4a9599cd72e935654f0"), looks := true }, kinds := [], alts := [], laidByText := true, laidKinds := [.data, .data, .data, .sentinel, .sentinel], laidTests := true, laidLooks := .later }
def FnToursCardSaid : Prop := Claim7.holds Tryd.pinned (.plain (OpenSpec.ofChange fnToursSpec)) fnToursCard

/-- THE SECOND FORM's CARD OF 'laws.FnRotational'. -/
def fnRotationalUptoCard : Claim7 := { stood := { row := fnRotationalUptoRow, standIns := [], harness := (true, "29ac54947346afe74105849d13b8b5e9ab4dc01e45f5b4a9599cd72e935654f0"), looks := true }, kinds := [], alts := [], laidByText := true, laidKinds := [.data, .data, .data], laidTests := true, laidLooks := .later }
def FnRotationalUptoCardSaid : Prop := Claim7.holds Tryd.pinned (.plain (OpenSpec.upto fnRotationalSpec)) fnRotationalUptoCard

/-- THE SECOND FORM's CARD OF 'laws.FnTours'. -/
def fnToursUptoCard : Claim7 := { stood := { row := fnToursUptoRow, standIns := [], harness := (true, "29ac54947346afe74105849d13b8b5e9ab4dc01e45f5b4a9599cd72e935654f0"), looks := true }, kinds := [], alts := [], laidByText := true, laidKinds := [.data, .data, .data, .sentinel, .sentinel], laidTests := true, laidLooks := .later }
def FnToursUptoCardSaid : Prop := Claim7.holds Tryd.pinned (.plain (OpenSpec.upto fnToursSpec)) fnToursUptoCard
end Rows
end Go.Proofs.YtbkiedhaacapbaaDoor
