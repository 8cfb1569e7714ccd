/-
  DERIVED. GIVEN WITH THE SEED: THE CARDS: each row of YtfjbcoahjinehaaDoorRows.lean that lists a variable, with what it lists TIED to the program's text (the seventh form; the later family's looks); each row that meets fmt, with fmt's text TOLD by the authors' own Lean function (tested against real Go, not proved from fmt's source: count such statements apart). THE CARD IS WHAT COUNTS. Prove the row's statement (the work); the ties are given (YtfjbcoahjinehaaDoorTie.lean); close each card by the builder's one call (the guide's Derived/Test/ToyasCard.lean, 'card_holds'). Laid BY PROGRAM, IN A SANDBOX (cutbox-door.mjs). By AI agents, Wed Nov 11 2026. No macro, syntax, notation, axiom, sorry.
-/
import Derived.Test.YtfjbcoahjinehaaDoorRows
import GoSem.ClaimSeven
namespace Go.Proofs.YtfjbcoahjinehaaDoor
namespace Rows

/-- THE TIED CARD OF 'marqueelaw17.B64Encodes'. -/
def b64EncodesCard : Claim7 := { stood := { row := b64EncodesRow, standIns := [], harness := (true, "efdc5b29f9cf332612be3019c5d8b886234b0edd74efcb8661402364e1b88c4d"), looks := false }, kinds := [], alts := [], laidByText := true, laidKinds := [.data, .pinned], laidTests := true, laidLooks := .later }
def B64EncodesCardSaid : Prop := Claim7.holds Tryd.pinned (.plain (OpenSpec.ofChange b64EncodesSpec)) b64EncodesCard

/-- THE TIED CARD OF 'marqueelaw17.B64Decodes'. -/
def b64DecodesCard : Claim7 := { stood := { row := b64DecodesRow, standIns := [], harness := (true, "efdc5b29f9cf332612be3019c5d8b886234b0edd74efcb8661402364e1b88c4d"), looks := false }, kinds := [], alts := [], laidByText := true, laidKinds := [.data, .pinned], laidTests := true, laidLooks := .later }
def B64DecodesCardSaid : Prop := Claim7.holds Tryd.pinned (.plain (OpenSpec.ofChange b64DecodesSpec)) b64DecodesCard

/-- THE TIED CARD OF 'marqueelaw17.B64Back'. -/
def b64BackCard : Claim7 := { stood := { row := b64BackRow, standIns := [], harness := (true, "efdc5b29f9cf332612be3019c5d8b886234b0edd74efcb8661402364e1b88c4d"), looks := false }, kinds := [], alts := [], laidByText := true, laidKinds := [.data, .pinned], laidTests := true, laidLooks := .later }
def B64BackCardSaid : Prop := Claim7.holds Tryd.pinned (.plain (OpenSpec.ofChange b64BackSpec)) b64BackCard

/-- THE TIED CARD OF 'marqueelaw17.B64Every'. -/
def b64EveryCard : Claim7 := { stood := { row := b64EveryRow, standIns := [], harness := (true, "efdc5b29f9cf332612be3019c5d8b886234b0edd74efcb8661402364e1b88c4d"), looks := false }, kinds := [], alts := [], laidByText := true, laidKinds := [.data, .pinned], laidTests := true, laidLooks := .later }
def B64EveryCardSaid : Prop := Claim7.holds Tryd.pinned (.plain (OpenSpec.ofChange b64EverySpec)) b64EveryCard

/-- THE TIED CARD OF 'marqueelaw17.B64Known'. -/
def b64KnownCard : Claim7 := { stood := { row := b64KnownRow, standIns := [], harness := (true, "efdc5b29f9cf332612be3019c5d8b886234b0edd74efcb8661402364e1b88c4d"), looks := false }, kinds := [], alts := [], laidByText := true, laidKinds := [.data, .pinned], laidTests := true, laidLooks := .later }
def B64KnownCardSaid : Prop := Claim7.holds Tryd.pinned (.plain (OpenSpec.ofChange b64KnownSpec)) b64KnownCard

/-- THE TIED CARD OF 'marqueelaw17.B64Parts'. -/
def b64PartsCard : Claim7 := { stood := { row := b64PartsRow, standIns := [], harness := (true, "efdc5b29f9cf332612be3019c5d8b886234b0edd74efcb8661402364e1b88c4d"), looks := false }, kinds := [], alts := [], laidByText := true, laidKinds := [.data, .pinned], laidTests := true, laidLooks := .later }
def B64PartsCardSaid : Prop := Claim7.holds Tryd.pinned (.plain (OpenSpec.ofChange b64PartsSpec)) b64PartsCard

/-- THE SECOND FORM's CARD OF 'marqueelaw17.B64Encodes'. -/
def b64EncodesUptoCard : Claim7 := { stood := { row := b64EncodesUptoRow, standIns := [], harness := (true, "efdc5b29f9cf332612be3019c5d8b886234b0edd74efcb8661402364e1b88c4d"), looks := false }, kinds := [], alts := [], laidByText := true, laidKinds := [.data, .pinned], laidTests := true, laidLooks := .later }
def B64EncodesUptoCardSaid : Prop := Claim7.holds Tryd.pinned (.plain (OpenSpec.upto b64EncodesSpec)) b64EncodesUptoCard

/-- THE SECOND FORM's CARD OF 'marqueelaw17.B64Decodes'. -/
def b64DecodesUptoCard : Claim7 := { stood := { row := b64DecodesUptoRow, standIns := [], harness := (true, "efdc5b29f9cf332612be3019c5d8b886234b0edd74efcb8661402364e1b88c4d"), looks := false }, kinds := [], alts := [], laidByText := true, laidKinds := [.data, .pinned], laidTests := true, laidLooks := .later }
def B64DecodesUptoCardSaid : Prop := Claim7.holds Tryd.pinned (.plain (OpenSpec.upto b64DecodesSpec)) b64DecodesUptoCard

/-- THE SECOND FORM's CARD OF 'marqueelaw17.B64Back'. -/
def b64BackUptoCard : Claim7 := { stood := { row := b64BackUptoRow, standIns := [], harness := (true, "efdc5b29f9cf332612be3019c5d8b886234b0edd74efcb8661402364e1b88c4d"), looks := false }, kinds := [], alts := [], laidByText := true, laidKinds := [.data, .pinned], laidTests := true, laidLooks := .later }
def B64BackUptoCardSaid : Prop := Claim7.holds Tryd.pinned (.plain (OpenSpec.upto b64BackSpec)) b64BackUptoCard

/-- THE SECOND FORM's CARD OF 'marqueelaw17.B64Every'. -/
def b64EveryUptoCard : Claim7 := { stood := { row := b64EveryUptoRow, standIns := [], harness := (true, "efdc5b29f9cf332612be3019c5d8b886234b0edd74efcb8661402364e1b88c4d"), looks := false }, kinds := [], alts := [], laidByText := true, laidKinds := [.data, .pinned], laidTests := true, laidLooks := .later }
def B64EveryUptoCardSaid : Prop := Claim7.holds Tryd.pinned (.plain (OpenSpec.upto b64EverySpec)) b64EveryUptoCard

/-- THE SECOND FORM's CARD OF 'marqueelaw17.B64Known'. -/
def b64KnownUptoCard : Claim7 := { stood := { row := b64KnownUptoRow, standIns := [], harness := (true, "efdc5b29f9cf332612be3019c5d8b886234b0edd74efcb8661402364e1b88c4d"), looks := false }, kinds := [], alts := [], laidByText := true, laidKinds := [.data, .pinned], laidTests := true, laidLooks := .later }
def B64KnownUptoCardSaid : Prop := Claim7.holds Tryd.pinned (.plain (OpenSpec.upto b64KnownSpec)) b64KnownUptoCard

/-- THE SECOND FORM's CARD OF 'marqueelaw17.B64Parts'. -/
def b64PartsUptoCard : Claim7 := { stood := { row := b64PartsUptoRow, standIns := [], harness := (true, "efdc5b29f9cf332612be3019c5d8b886234b0edd74efcb8661402364e1b88c4d"), looks := false }, kinds := [], alts := [], laidByText := true, laidKinds := [.data, .pinned], laidTests := true, laidLooks := .later }
def B64PartsUptoCardSaid : Prop := Claim7.holds Tryd.pinned (.plain (OpenSpec.upto b64PartsSpec)) b64PartsUptoCard
end Rows
end Go.Proofs.YtfjbcoahjinehaaDoor
