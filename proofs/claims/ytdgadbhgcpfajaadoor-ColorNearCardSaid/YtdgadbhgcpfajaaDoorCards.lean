/-
  DERIVED. GIVEN WITH THE SEED: THE CARDS: each row of YtdgadbhgcpfajaaDoorRows.lean that lists a variable, with what it lists TIED to the program's text (the seventh form; the later family's looks); each row that meets fmt, with fmt's text TOLD by the authors' own Lean function (tested against real Go, not proved from fmt's source: count such statements apart). THE CARD IS WHAT COUNTS. Prove the row's statement (the work); the ties are given (YtdgadbhgcpfajaaDoorTie.lean); close each card by the builder's one call (the guide's Derived/Test/ToyasCard.lean, 'card_holds'). Laid BY PROGRAM, IN A SANDBOX (cutbox-door.mjs). By AI agents, Wed Nov 11 2026. No macro, syntax, notation, axiom, sorry.
-/
import Derived.Test.YtdgadbhgcpfajaaDoorRows
import GoSem.ClaimSeven
namespace Go.Proofs.YtdgadbhgcpfajaaDoor
namespace Rows

/-- THE TIED CARD OF 'marqueelaw02.ColorNear'. -/
def colorNearCard : Claim7 := { stood := { row := colorNearRow, standIns := [], harness := (true, "bb0e87fd15fad01ce341150b43cb72c3d48df1ca549112691c3650f2f99a8fdb"), looks := false }, kinds := [], alts := [], laidByText := true, laidKinds := [.data, .pinned], laidTests := true, laidLooks := .later }
def ColorNearCardSaid : Prop := Claim7.holds Tryd.pinned (.plain (OpenSpec.ofChange colorNearSpec)) colorNearCard

/-- THE TIED CARD OF 'marqueelaw02.ColorTells'. -/
def colorTellsCard : Claim7 := { stood := { row := colorTellsRow, standIns := [], harness := (true, "bb0e87fd15fad01ce341150b43cb72c3d48df1ca549112691c3650f2f99a8fdb"), looks := false }, kinds := [], alts := [], laidByText := true, laidKinds := [.data, .pinned], laidTests := true, laidLooks := .later }
def ColorTellsCardSaid : Prop := Claim7.holds Tryd.pinned (.plain (OpenSpec.ofChange colorTellsSpec)) colorTellsCard

/-- THE TIED CARD OF 'marqueelaw02.ColorPalette'. -/
def colorPaletteCard : Claim7 := { stood := { row := colorPaletteRow, standIns := [], harness := (true, "bb0e87fd15fad01ce341150b43cb72c3d48df1ca549112691c3650f2f99a8fdb"), looks := false }, kinds := [], alts := [], laidByText := true, laidKinds := [.data, .pinned], laidTests := true, laidLooks := .later }
def ColorPaletteCardSaid : Prop := Claim7.holds Tryd.pinned (.plain (OpenSpec.ofChange colorPaletteSpec)) colorPaletteCard

/-- THE TIED CARD OF 'marqueelaw02.ColorKnown'. -/
def colorKnownCard : Claim7 := { stood := { row := colorKnownRow, standIns := [], harness := (true, "bb0e87fd15fad01ce341150b43cb72c3d48df1ca549112691c3650f2f99a8fdb"), looks := false }, kinds := [], alts := [], laidByText := true, laidKinds := [.data, .pinned], laidTests := true, laidLooks := .later }
def ColorKnownCardSaid : Prop := Claim7.holds Tryd.pinned (.plain (OpenSpec.ofChange colorKnownSpec)) colorKnownCard

/-- THE TIED CARD OF 'marqueelaw02.ColorBack'. -/
def colorBackCard : Claim7 := { stood := { row := colorBackRow, standIns := [], harness := (true, "bb0e87fd15fad01ce341150b43cb72c3d48df1ca549112691c3650f2f99a8fdb"), looks := false }, kinds := [], alts := [], laidByText := true, laidKinds := [.data, .pinned, .pinned], laidTests := true, laidLooks := .later }
def ColorBackCardSaid : Prop := Claim7.holds Tryd.pinned (.plain (OpenSpec.ofChange colorBackSpec)) colorBackCard

/-- THE TIED CARD OF 'marqueelaw02.ColorScales'. -/
def colorScalesCard : Claim7 := { stood := { row := colorScalesRow, standIns := [], harness := (true, "bb0e87fd15fad01ce341150b43cb72c3d48df1ca549112691c3650f2f99a8fdb"), looks := false }, kinds := [], alts := [], laidByText := true, laidKinds := [.data, .pinned], laidTests := true, laidLooks := .later }
def ColorScalesCardSaid : Prop := Claim7.holds Tryd.pinned (.plain (OpenSpec.ofChange colorScalesSpec)) colorScalesCard

/-- THE SECOND FORM's CARD OF 'marqueelaw02.ColorNear'. -/
def colorNearUptoCard : Claim7 := { stood := { row := colorNearUptoRow, standIns := [], harness := (true, "bb0e87fd15fad01ce341150b43cb72c3d48df1ca549112691c3650f2f99a8fdb"), looks := false }, kinds := [], alts := [], laidByText := true, laidKinds := [.data, .pinned], laidTests := true, laidLooks := .later }
def ColorNearUptoCardSaid : Prop := Claim7.holds Tryd.pinned (.plain (OpenSpec.upto colorNearSpec)) colorNearUptoCard

/-- THE SECOND FORM's CARD OF 'marqueelaw02.ColorTells'. -/
def colorTellsUptoCard : Claim7 := { stood := { row := colorTellsUptoRow, standIns := [], harness := (true, "bb0e87fd15fad01ce341150b43cb72c3d48df1ca549112691c3650f2f99a8fdb"), looks := false }, kinds := [], alts := [], laidByText := true, laidKinds := [.data, .pinned], laidTests := true, laidLooks := .later }
def ColorTellsUptoCardSaid : Prop := Claim7.holds Tryd.pinned (.plain (OpenSpec.upto colorTellsSpec)) colorTellsUptoCard

/-- THE SECOND FORM's CARD OF 'marqueelaw02.ColorPalette'. -/
def colorPaletteUptoCard : Claim7 := { stood := { row := colorPaletteUptoRow, standIns := [], harness := (true, "bb0e87fd15fad01ce341150b43cb72c3d48df1ca549112691c3650f2f99a8fdb"), looks := false }, kinds := [], alts := [], laidByText := true, laidKinds := [.data, .pinned], laidTests := true, laidLooks := .later }
def ColorPaletteUptoCardSaid : Prop := Claim7.holds Tryd.pinned (.plain (OpenSpec.upto colorPaletteSpec)) colorPaletteUptoCard

/-- THE SECOND FORM's CARD OF 'marqueelaw02.ColorKnown'. -/
def colorKnownUptoCard : Claim7 := { stood := { row := colorKnownUptoRow, standIns := [], harness := (true, "bb0e87fd15fad01ce341150b43cb72c3d48df1ca549112691c3650f2f99a8fdb"), looks := false }, kinds := [], alts := [], laidByText := true, laidKinds := [.data, .pinned], laidTests := true, laidLooks := .later }
def ColorKnownUptoCardSaid : Prop := Claim7.holds Tryd.pinned (.plain (OpenSpec.upto colorKnownSpec)) colorKnownUptoCard

/-- THE SECOND FORM's CARD OF 'marqueelaw02.ColorBack'. -/
def colorBackUptoCard : Claim7 := { stood := { row := colorBackUptoRow, standIns := [], harness := (true, "bb0e87fd15fad01ce341150b43cb72c3d48df1ca549112691c3650f2f99a8fdb"), looks := false }, kinds := [], alts := [], laidByText := true, laidKinds := [.data, .pinned, .pinned], laidTests := true, laidLooks := .later }
def ColorBackUptoCardSaid : Prop := Claim7.holds Tryd.pinned (.plain (OpenSpec.upto colorBackSpec)) colorBackUptoCard

/-- THE SECOND FORM's CARD OF 'marqueelaw02.ColorScales'. -/
def colorScalesUptoCard : Claim7 := { stood := { row := colorScalesUptoRow, standIns := [], harness := (true, "bb0e87fd15fad01ce341150b43cb72c3d48df1ca549112691c3650f2f99a8fdb"), looks := false }, kinds := [], alts := [], laidByText := true, laidKinds := [.data, .pinned], laidTests := true, laidLooks := .later }
def ColorScalesUptoCardSaid : Prop := Claim7.holds Tryd.pinned (.plain (OpenSpec.upto colorScalesSpec)) colorScalesUptoCard
end Rows
end Go.Proofs.YtdgadbhgcpfajaaDoor
