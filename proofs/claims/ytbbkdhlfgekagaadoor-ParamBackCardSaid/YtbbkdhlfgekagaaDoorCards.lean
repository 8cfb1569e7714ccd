/-
  DERIVED. GIVEN WITH THE SEED: THE CARDS: each row of YtbbkdhlfgekagaaDoorRows.lean that lists a variable, with what it lists TIED to the program's text (the seventh form; the later family's looks); each row that meets fmt, with fmt's text TOLD by the authors' own Lean function (tested against real Go, not proved from fmt's source: count such statements apart). THE CARD IS WHAT COUNTS. Prove the row's statement (the work); the ties are given (YtbbkdhlfgekagaaDoorTie.lean); close each card by the builder's one call (the guide's Derived/Test/ToyasCard.lean, 'card_holds'). Laid BY PROGRAM, IN A SANDBOX (cutbox-door.mjs). By AI agents, Wed Nov 11 2026. No macro, syntax, notation, axiom, sorry.
-/
import Derived.Test.YtbbkdhlfgekagaaDoorRows
import GoSem.ClaimSeven
namespace Go.Proofs.YtbbkdhlfgekagaaDoor
namespace Rows

/-- THE TIED CARD OF 'marqueelaw06.ParamBack'. -/
def paramBackCard : Claim7 := { stood := { row := paramBackRow, standIns := [], harness := (true, "b7e35089685f6c2c58ab0f23005405d01a651fc72fb2174190a85461f25812ef"), looks := false }, kinds := [], alts := [], laidByText := true, laidKinds := [.data, .data, .data, .data, .pinned], laidTests := true, laidLooks := .later }
def ParamBackCardSaid : Prop := Claim7.holds Tryd.pinned (.plain (OpenSpec.ofChange paramBackSpec)) paramBackCard

/-- THE TIED CARD OF 'marqueelaw06.ParamParts'. -/
def paramPartsCard : Claim7 := { stood := { row := paramPartsRow, standIns := [], harness := (true, "b7e35089685f6c2c58ab0f23005405d01a651fc72fb2174190a85461f25812ef"), looks := false }, kinds := [], alts := [], laidByText := true, laidKinds := [.data, .data, .data, .data, .pinned], laidTests := true, laidLooks := .later }
def ParamPartsCardSaid : Prop := Claim7.holds Tryd.pinned (.plain (OpenSpec.ofChange paramPartsSpec)) paramPartsCard

/-- THE TIED CARD OF 'marqueelaw06.ParamBounds'. -/
def paramBoundsCard : Claim7 := { stood := { row := paramBoundsRow, standIns := [], harness := (true, "b7e35089685f6c2c58ab0f23005405d01a651fc72fb2174190a85461f25812ef"), looks := false }, kinds := [], alts := [], laidByText := true, laidKinds := [.data, .data, .data, .data, .pinned], laidTests := true, laidLooks := .later }
def ParamBoundsCardSaid : Prop := Claim7.holds Tryd.pinned (.plain (OpenSpec.ofChange paramBoundsSpec)) paramBoundsCard

/-- THE SECOND FORM's CARD OF 'marqueelaw06.ParamBack'. -/
def paramBackUptoCard : Claim7 := { stood := { row := paramBackUptoRow, standIns := [], harness := (true, "b7e35089685f6c2c58ab0f23005405d01a651fc72fb2174190a85461f25812ef"), looks := false }, kinds := [], alts := [], laidByText := true, laidKinds := [.data, .data, .data, .data, .pinned], laidTests := true, laidLooks := .later }
def ParamBackUptoCardSaid : Prop := Claim7.holds Tryd.pinned (.plain (OpenSpec.upto paramBackSpec)) paramBackUptoCard

/-- THE SECOND FORM's CARD OF 'marqueelaw06.ParamParts'. -/
def paramPartsUptoCard : Claim7 := { stood := { row := paramPartsUptoRow, standIns := [], harness := (true, "b7e35089685f6c2c58ab0f23005405d01a651fc72fb2174190a85461f25812ef"), looks := false }, kinds := [], alts := [], laidByText := true, laidKinds := [.data, .data, .data, .data, .pinned], laidTests := true, laidLooks := .later }
def ParamPartsUptoCardSaid : Prop := Claim7.holds Tryd.pinned (.plain (OpenSpec.upto paramPartsSpec)) paramPartsUptoCard

/-- THE SECOND FORM's CARD OF 'marqueelaw06.ParamBounds'. -/
def paramBoundsUptoCard : Claim7 := { stood := { row := paramBoundsUptoRow, standIns := [], harness := (true, "b7e35089685f6c2c58ab0f23005405d01a651fc72fb2174190a85461f25812ef"), looks := false }, kinds := [], alts := [], laidByText := true, laidKinds := [.data, .data, .data, .data, .pinned], laidTests := true, laidLooks := .later }
def ParamBoundsUptoCardSaid : Prop := Claim7.holds Tryd.pinned (.plain (OpenSpec.upto paramBoundsSpec)) paramBoundsUptoCard
end Rows
end Go.Proofs.YtbbkdhlfgekagaaDoor
