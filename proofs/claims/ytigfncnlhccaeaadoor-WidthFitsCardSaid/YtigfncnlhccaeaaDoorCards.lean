/-
  DERIVED. GIVEN WITH THE SEED: THE CARDS: each row of YtigfncnlhccaeaaDoorRows.lean that lists a variable, with what it lists TIED to the program's text (the seventh form; the later family's looks); each row that meets fmt, with fmt's text TOLD by the authors' own Lean function (tested against real Go, not proved from fmt's source: count such statements apart). THE CARD IS WHAT COUNTS. Prove the row's statement (the work); the ties are given (YtigfncnlhccaeaaDoorTie.lean); close each card by the builder's one call (the guide's Derived/Test/ToyasCard.lean, 'card_holds'). Laid BY PROGRAM, IN A SANDBOX (cutbox-door.mjs). By AI agents, Wed Nov 11 2026. No macro, syntax, notation, axiom, sorry.
-/
import Derived.Test.YtigfncnlhccaeaaDoorRows
import GoSem.ClaimSeven
namespace Go.Proofs.YtigfncnlhccaeaaDoor
namespace Rows

/-- THE TIED CARD OF 'marqueelaw04.WidthFits'. -/
def widthFitsCard : Claim7 := { stood := { row := widthFitsRow, standIns := [], harness := (true, "72a62165d469c3ebab20e9c238c3b4c9c52e868de0e7456d6e5f5a2e12e4ad6d"), looks := false }, kinds := [], alts := [], laidByText := true, laidKinds := [.data, .pinned], laidTests := true, laidLooks := .later }
def WidthFitsCardSaid : Prop := Claim7.holds Tryd.pinned (.plain (OpenSpec.ofChange widthFitsSpec)) widthFitsCard

/-- THE SECOND FORM's CARD OF 'marqueelaw04.WidthFits'. -/
def widthFitsUptoCard : Claim7 := { stood := { row := widthFitsUptoRow, standIns := [], harness := (true, "72a62165d469c3ebab20e9c238c3b4c9c52e868de0e7456d6e5f5a2e12e4ad6d"), looks := false }, kinds := [], alts := [], laidByText := true, laidKinds := [.data, .pinned], laidTests := true, laidLooks := .later }
def WidthFitsUptoCardSaid : Prop := Claim7.holds Tryd.pinned (.plain (OpenSpec.upto widthFitsSpec)) widthFitsUptoCard
end Rows
end Go.Proofs.YtigfncnlhccaeaaDoor
