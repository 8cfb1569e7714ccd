/-
  DERIVED. GIVEN WITH THE SEED: THE CARDS: each row of YthmmpfaghmoenaaDoorRows.lean that lists a variable, with what it lists TIED to the program's text (the seventh form; the later family's looks); each row that meets fmt, with fmt's text TOLD by the authors' own Lean function (tested against real Go, not proved from fmt's source: count such statements apart). THE CARD IS WHAT COUNTS. Prove the row's statement (the work); the ties are given (YthmmpfaghmoenaaDoorTie.lean); close each card by the builder's one call (the guide's Derived/Test/ToyasCard.lean, 'card_holds'). Laid BY PROGRAM, IN A SANDBOX (cutbox-door.mjs). By AI agents, Wed Nov 11 2026. No macro, syntax, notation, axiom, sorry.
-/
import Derived.Test.YthmmpfaghmoenaaDoorRows
import GoSem.ClaimSeven
namespace Go.Proofs.YthmmpfaghmoenaaDoor
namespace Rows

/-- THE TIED CARD OF 'marqueelaw09.AttrParts'. -/
def attrPartsCard : Claim7 := { stood := { row := attrPartsRow, standIns := [], harness := (true, "942d01ce0c46920e70fa0ffff631809571e453ea591278624c434f0bd6d993c8"), looks := false }, kinds := [], alts := [], laidByText := true, laidKinds := [.data, .data, .data], laidTests := true, laidLooks := .later }
def AttrPartsCardSaid : Prop := Claim7.holds Tryd.pinned (.plain (OpenSpec.ofChange attrPartsSpec)) attrPartsCard

/-- THE TIED CARD OF 'marqueelaw09.AttrOne'. -/
def attrOneCard : Claim7 := { stood := { row := attrOneRow, standIns := [], harness := (true, "942d01ce0c46920e70fa0ffff631809571e453ea591278624c434f0bd6d993c8"), looks := false }, kinds := [], alts := [], laidByText := true, laidKinds := [.data, .data, .data], laidTests := true, laidLooks := .later }
def AttrOneCardSaid : Prop := Claim7.holds Tryd.pinned (.plain (OpenSpec.ofChange attrOneSpec)) attrOneCard

/-- THE TIED CARD OF 'marqueelaw09.AttrColors'. -/
def attrColorsCard : Claim7 := { stood := { row := attrColorsRow, standIns := [], harness := (true, "942d01ce0c46920e70fa0ffff631809571e453ea591278624c434f0bd6d993c8"), looks := false }, kinds := [], alts := [], laidByText := true, laidKinds := [.data, .data, .data], laidTests := true, laidLooks := .later }
def AttrColorsCardSaid : Prop := Claim7.holds Tryd.pinned (.plain (OpenSpec.ofChange attrColorsSpec)) attrColorsCard

/-- THE TIED CARD OF 'marqueelaw09.AttrSgr'. -/
def attrSgrCard : Claim7 := { stood := { row := attrSgrRow, standIns := [], harness := (true, "942d01ce0c46920e70fa0ffff631809571e453ea591278624c434f0bd6d993c8"), looks := false }, kinds := [], alts := [], laidByText := true, laidKinds := [.data, .data, .data], laidTests := true, laidLooks := .later }
def AttrSgrCardSaid : Prop := Claim7.holds Tryd.pinned (.plain (OpenSpec.ofChange attrSgrSpec)) attrSgrCard

/-- THE TIED CARD OF 'marqueelaw09.AttrParams'. -/
def attrParamsCard : Claim7 := { stood := { row := attrParamsRow, standIns := [], harness := (true, "942d01ce0c46920e70fa0ffff631809571e453ea591278624c434f0bd6d993c8"), looks := false }, kinds := [], alts := [], laidByText := true, laidKinds := [.data, .data, .data], laidTests := true, laidLooks := .later }
def AttrParamsCardSaid : Prop := Claim7.holds Tryd.pinned (.plain (OpenSpec.ofChange attrParamsSpec)) attrParamsCard

/-- THE TIED CARD OF 'marqueelaw09.AttrBack'. -/
def attrBackCard : Claim7 := { stood := { row := attrBackRow, standIns := [], harness := (true, "942d01ce0c46920e70fa0ffff631809571e453ea591278624c434f0bd6d993c8"), looks := false }, kinds := [], alts := [], laidByText := true, laidKinds := [.data, .data, .data], laidTests := true, laidLooks := .later }
def AttrBackCardSaid : Prop := Claim7.holds Tryd.pinned (.plain (OpenSpec.ofChange attrBackSpec)) attrBackCard

/-- THE TIED CARD OF 'marqueelaw09.AttrKnown'. -/
def attrKnownCard : Claim7 := { stood := { row := attrKnownRow, standIns := [], harness := (true, "942d01ce0c46920e70fa0ffff631809571e453ea591278624c434f0bd6d993c8"), looks := false }, kinds := [], alts := [], laidByText := true, laidKinds := [.data, .data, .data], laidTests := true, laidLooks := .later }
def AttrKnownCardSaid : Prop := Claim7.holds Tryd.pinned (.plain (OpenSpec.ofChange attrKnownSpec)) attrKnownCard

/-- THE SECOND FORM's CARD OF 'marqueelaw09.AttrParts'. -/
def attrPartsUptoCard : Claim7 := { stood := { row := attrPartsUptoRow, standIns := [], harness := (true, "942d01ce0c46920e70fa0ffff631809571e453ea591278624c434f0bd6d993c8"), looks := false }, kinds := [], alts := [], laidByText := true, laidKinds := [.data, .data, .data], laidTests := true, laidLooks := .later }
def AttrPartsUptoCardSaid : Prop := Claim7.holds Tryd.pinned (.plain (OpenSpec.upto attrPartsSpec)) attrPartsUptoCard

/-- THE SECOND FORM's CARD OF 'marqueelaw09.AttrOne'. -/
def attrOneUptoCard : Claim7 := { stood := { row := attrOneUptoRow, standIns := [], harness := (true, "942d01ce0c46920e70fa0ffff631809571e453ea591278624c434f0bd6d993c8"), looks := false }, kinds := [], alts := [], laidByText := true, laidKinds := [.data, .data, .data], laidTests := true, laidLooks := .later }
def AttrOneUptoCardSaid : Prop := Claim7.holds Tryd.pinned (.plain (OpenSpec.upto attrOneSpec)) attrOneUptoCard

/-- THE SECOND FORM's CARD OF 'marqueelaw09.AttrColors'. -/
def attrColorsUptoCard : Claim7 := { stood := { row := attrColorsUptoRow, standIns := [], harness := (true, "942d01ce0c46920e70fa0ffff631809571e453ea591278624c434f0bd6d993c8"), looks := false }, kinds := [], alts := [], laidByText := true, laidKinds := [.data, .data, .data], laidTests := true, laidLooks := .later }
def AttrColorsUptoCardSaid : Prop := Claim7.holds Tryd.pinned (.plain (OpenSpec.upto attrColorsSpec)) attrColorsUptoCard

/-- THE SECOND FORM's CARD OF 'marqueelaw09.AttrSgr'. -/
def attrSgrUptoCard : Claim7 := { stood := { row := attrSgrUptoRow, standIns := [], harness := (true, "942d01ce0c46920e70fa0ffff631809571e453ea591278624c434f0bd6d993c8"), looks := false }, kinds := [], alts := [], laidByText := true, laidKinds := [.data, .data, .data], laidTests := true, laidLooks := .later }
def AttrSgrUptoCardSaid : Prop := Claim7.holds Tryd.pinned (.plain (OpenSpec.upto attrSgrSpec)) attrSgrUptoCard

/-- THE SECOND FORM's CARD OF 'marqueelaw09.AttrParams'. -/
def attrParamsUptoCard : Claim7 := { stood := { row := attrParamsUptoRow, standIns := [], harness := (true, "942d01ce0c46920e70fa0ffff631809571e453ea591278624c434f0bd6d993c8"), looks := false }, kinds := [], alts := [], laidByText := true, laidKinds := [.data, .data, .data], laidTests := true, laidLooks := .later }
def AttrParamsUptoCardSaid : Prop := Claim7.holds Tryd.pinned (.plain (OpenSpec.upto attrParamsSpec)) attrParamsUptoCard

/-- THE SECOND FORM's CARD OF 'marqueelaw09.AttrBack'. -/
def attrBackUptoCard : Claim7 := { stood := { row := attrBackUptoRow, standIns := [], harness := (true, "942d01ce0c46920e70fa0ffff631809571e453ea591278624c434f0bd6d993c8"), looks := false }, kinds := [], alts := [], laidByText := true, laidKinds := [.data, .data, .data], laidTests := true, laidLooks := .later }
def AttrBackUptoCardSaid : Prop := Claim7.holds Tryd.pinned (.plain (OpenSpec.upto attrBackSpec)) attrBackUptoCard

/-- THE SECOND FORM's CARD OF 'marqueelaw09.AttrKnown'. -/
def attrKnownUptoCard : Claim7 := { stood := { row := attrKnownUptoRow, standIns := [], harness := (true, "942d01ce0c46920e70fa0ffff631809571e453ea591278624c434f0bd6d993c8"), looks := false }, kinds := [], alts := [], laidByText := true, laidKinds := [.data, .data, .data], laidTests := true, laidLooks := .later }
def AttrKnownUptoCardSaid : Prop := Claim7.holds Tryd.pinned (.plain (OpenSpec.upto attrKnownSpec)) attrKnownUptoCard
end Rows
end Go.Proofs.YthmmpfaghmoenaaDoor
