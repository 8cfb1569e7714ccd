/-
  NARROWER THAN 'FOR EVERY INPUT', by the rows' own cells (each row's printed sentence says how): ColorNear: laid · ColorTells: laid · ColorPalette: laid · ColorKnown: laid · ColorBack: laid · ColorScales: laid.
  DERIVED. THE GIVEN ROWS OF THIS SEAT. 6 by the template 'for every input the law returns true; each argument reads behind the call as it read before'; 0 by the template 'total and deterministic' (their statements: YtdgadbhgcpfajaaDoorTotals.lean).
  GIVEN WITH THE SEED: the statements are not yours to turn. If you find one false, say at which input.
  Laid BY PROGRAM, IN A SANDBOX (cutbox-rows.mjs): the forced cells as the released guide's own fill.sh prints them over the translation ba28676bff554ad1… (all of the seat's roots in one cut). By AI agents, Wed Nov 11 2026. No macro, syntax, notation, axiom, sorry.
-/
import Derived.Test.YtdgadbhgcpfajaaDoorChecked
import GoSem.PinnedTables
import GoSem.Claim
import GoSem.ClaimJoined
import GoSem.ClaimMapViews
import Derived.JoinedTies
import Derived.KernelRfl
namespace Go.Proofs.YtdgadbhgcpfajaaDoor
/- THE CELL 'sum', in the pinned program and in every row, IS THE sha256 OF THE DUMP (.gsa) THAT YtdgadbhgcpfajaaDoorProg.lean LOADS. Nothing in Lean hashes anything: it is a label: what it is worth is what the hold of that sum in a sandbox is worth. -/
noncomputable def Tryd.pinned : Pinned := { name := "ytdgadbhgcpfajaadoor", sum := "ba28676bff554ad1dd50158b41886475a36e19232913bbb545188bfe0f206f4e", checked := Tryd.checked }
namespace Rows
def none {H : Type} : Left H := { results := [], args := [] }

/- WHAT THE LISTED PACKAGE-LEVEL VARIABLES READ AS WHEN THE CALL BEGINS. Each datum BY PROGRAM (the guide's laid-datum.mjs) off the statement by which the dump's own 'gosem.cut.vars' lays the variable. In a bare row this is a premise. The card (YtdgadbhgcpfajaaDoorCards.lean) ties it to the program's text. -/
def laid_unicode_utf8_acceptRanges {H : Type} : DataW H := .agg [.agg [.lit (.int .u8 128), .lit (.int .u8 191)], .agg [.lit (.int .u8 160), .lit (.int .u8 191)], .agg [.lit (.int .u8 128), .lit (.int .u8 159)], .agg [.lit (.int .u8 144), .lit (.int .u8 191)], .agg [.lit (.int .u8 128), .lit (.int .u8 143)], .agg [.lit (.int .u8 0), .lit (.int .u8 0)], .agg [.lit (.int .u8 0), .lit (.int .u8 0)], .agg [.lit (.int .u8 0), .lit (.int .u8 0)], .agg [.lit (.int .u8 0), .lit (.int .u8 0)], .agg [.lit (.int .u8 0), .lit (.int .u8 0)], .agg [.lit (.int .u8 0), .lit (.int .u8 0)], .agg [.lit (.int .u8 0), .lit (.int .u8 0)], .agg [.lit (.int .u8 0), .lit (.int .u8 0)], .agg [.lit (.int .u8 0), .lit (.int .u8 0)], .agg [.lit (.int .u8 0), .lit (.int .u8 0)], .agg [.lit (.int .u8 0), .lit (.int .u8 0)]]
/-- One of Go's own tables, pinned by name: the form's constant. -/
def laid_unicode_utf8_first : DataW Unit := Go.Pinned.utf8First
/-- One of Go's own tables, pinned by name: the form's constant. -/
def laid_unicode_CaseRanges : DataW Unit := Go.Pinned.caseRanges

/-- 'marqueelaw02.ColorNear': WHATEVER THE INPUT: true; the input reads as it did. -/
def colorNearSpec : ChangeSpec := { name := "colorNear", fn := fun _ => fun
  | [d1, d2, d3] => { results := [.lit (.bool true)], args := [d1, d2, d3] }
  | _ => none }
def colorNearRow : OpenClaim := { program := "ytdgadbhgcpfajaadoor", sum := "ba28676bff554ad1dd50158b41886475a36e19232913bbb545188bfe0f206f4e", func := "marquee/marqueelaw02.ColorNear", spec := "colorNear", inPlace := ["internal/bytealg.CountString", "internal/bytealg.IndexByteString", "internal/bytealg.IndexString", "internal/abi.NoEscape", "internal/bytealg.MakeNoZero"], unfollowed := true, recurses := true, named := ["unicode/utf8.first", "unicode/utf8.acceptRanges", "internal/bytealg.MaxLen"], plainKeys := false, apart := false, laid := [("unicode/utf8.acceptRanges", laid_unicode_utf8_acceptRanges), ("unicode/utf8.first", laid_unicode_utf8_first)] }
def ColorNearSaid : Prop := colorNearRow.holds Tryd.pinned (OpenSpec.ofChange colorNearSpec)

/-- ITS FALSE NEIGHBOUR: 'it returns false'. Refute it at one input. -/
def colorNearWrong : ChangeSpec := { name := "colorNear", fn := fun _ => fun
  | [d1, d2, d3] => { results := [.lit (.bool false)], args := [d1, d2, d3] }
  | _ => none }
def ColorNearWrongFalsely : Prop := colorNearRow.holds Tryd.pinned (OpenSpec.ofChange colorNearWrong)

/-- 'marqueelaw02.ColorTells': WHATEVER THE INPUT: true; the input reads as it did. -/
def colorTellsSpec : ChangeSpec := { name := "colorTells", fn := fun _ => fun
  | [d1, d2, d3] => { results := [.lit (.bool true)], args := [d1, d2, d3] }
  | _ => none }
def colorTellsRow : OpenClaim := { program := "ytdgadbhgcpfajaadoor", sum := "ba28676bff554ad1dd50158b41886475a36e19232913bbb545188bfe0f206f4e", func := "marquee/marqueelaw02.ColorTells", spec := "colorTells", inPlace := ["internal/bytealg.CountString", "internal/bytealg.IndexByteString", "internal/bytealg.IndexString", "internal/abi.NoEscape", "internal/bytealg.MakeNoZero"], unfollowed := true, recurses := true, named := ["unicode/utf8.first", "unicode/utf8.acceptRanges", "internal/bytealg.MaxLen"], plainKeys := false, apart := false, laid := [("unicode/utf8.acceptRanges", laid_unicode_utf8_acceptRanges), ("unicode/utf8.first", laid_unicode_utf8_first)] }
def ColorTellsSaid : Prop := colorTellsRow.holds Tryd.pinned (OpenSpec.ofChange colorTellsSpec)

/-- ITS FALSE NEIGHBOUR: 'it returns false'. Refute it at one input. -/
def colorTellsWrong : ChangeSpec := { name := "colorTells", fn := fun _ => fun
  | [d1, d2, d3] => { results := [.lit (.bool false)], args := [d1, d2, d3] }
  | _ => none }
def ColorTellsWrongFalsely : Prop := colorTellsRow.holds Tryd.pinned (OpenSpec.ofChange colorTellsWrong)

/-- 'marqueelaw02.ColorPalette': WHATEVER THE INPUT: true; the input reads as it did. -/
def colorPaletteSpec : ChangeSpec := { name := "colorPalette", fn := fun _ => fun
  | [d1, d2, d3] => { results := [.lit (.bool true)], args := [d1, d2, d3] }
  | _ => none }
def colorPaletteRow : OpenClaim := { program := "ytdgadbhgcpfajaadoor", sum := "ba28676bff554ad1dd50158b41886475a36e19232913bbb545188bfe0f206f4e", func := "marquee/marqueelaw02.ColorPalette", spec := "colorPalette", inPlace := ["internal/bytealg.CountString", "internal/bytealg.IndexByteString", "internal/bytealg.IndexString", "internal/abi.NoEscape", "internal/bytealg.MakeNoZero"], unfollowed := true, recurses := true, named := ["unicode/utf8.first", "unicode/utf8.acceptRanges", "internal/bytealg.MaxLen"], plainKeys := false, apart := false, laid := [("unicode/utf8.acceptRanges", laid_unicode_utf8_acceptRanges), ("unicode/utf8.first", laid_unicode_utf8_first)] }
def ColorPaletteSaid : Prop := colorPaletteRow.holds Tryd.pinned (OpenSpec.ofChange colorPaletteSpec)

/-- ITS FALSE NEIGHBOUR: 'it returns false'. Refute it at one input. -/
def colorPaletteWrong : ChangeSpec := { name := "colorPalette", fn := fun _ => fun
  | [d1, d2, d3] => { results := [.lit (.bool false)], args := [d1, d2, d3] }
  | _ => none }
def ColorPaletteWrongFalsely : Prop := colorPaletteRow.holds Tryd.pinned (OpenSpec.ofChange colorPaletteWrong)

/-- 'marqueelaw02.ColorKnown': WHATEVER THE INPUT: true; the input reads as it did. -/
def colorKnownSpec : ChangeSpec := { name := "colorKnown", fn := fun _ => fun
  | [] => { results := [.lit (.bool true)], args := [] }
  | _ => none }
def colorKnownRow : OpenClaim := { program := "ytdgadbhgcpfajaadoor", sum := "ba28676bff554ad1dd50158b41886475a36e19232913bbb545188bfe0f206f4e", func := "marquee/marqueelaw02.ColorKnown", spec := "colorKnown", inPlace := ["internal/bytealg.CountString", "internal/bytealg.IndexByteString", "internal/bytealg.IndexString", "internal/abi.NoEscape", "internal/bytealg.MakeNoZero"], unfollowed := true, recurses := true, named := ["unicode/utf8.first", "unicode/utf8.acceptRanges", "internal/bytealg.MaxLen"], plainKeys := false, apart := false, laid := [("unicode/utf8.acceptRanges", laid_unicode_utf8_acceptRanges), ("unicode/utf8.first", laid_unicode_utf8_first)] }
def ColorKnownSaid : Prop := colorKnownRow.holds Tryd.pinned (OpenSpec.ofChange colorKnownSpec)

/-- ITS FALSE NEIGHBOUR: 'it returns false'. Refute it at one input. -/
def colorKnownWrong : ChangeSpec := { name := "colorKnown", fn := fun _ => fun
  | [] => { results := [.lit (.bool false)], args := [] }
  | _ => none }
def ColorKnownWrongFalsely : Prop := colorKnownRow.holds Tryd.pinned (OpenSpec.ofChange colorKnownWrong)

/-- 'marqueelaw02.ColorBack': WHATEVER THE INPUT: true; the input reads as it did. -/
def colorBackSpec : ChangeSpec := { name := "colorBack", fn := fun _ => fun
  | [d] => { results := [.lit (.bool true)], args := [d] }
  | _ => none }
def colorBackRow : OpenClaim := { program := "ytdgadbhgcpfajaadoor", sum := "ba28676bff554ad1dd50158b41886475a36e19232913bbb545188bfe0f206f4e", func := "marquee/marqueelaw02.ColorBack", spec := "colorBack", inPlace := ["internal/bytealg.CountString", "internal/bytealg.IndexByteString", "internal/bytealg.IndexString", "internal/abi.NoEscape", "internal/bytealg.MakeNoZero"], unfollowed := true, recurses := true, named := ["unicode/utf8.first", "unicode/utf8.acceptRanges", "internal/bytealg.MaxLen", "unicode.CaseRanges"], plainKeys := false, apart := false, laid := [("unicode/utf8.acceptRanges", laid_unicode_utf8_acceptRanges), ("unicode.CaseRanges", laid_unicode_CaseRanges), ("unicode/utf8.first", laid_unicode_utf8_first)] }
def ColorBackSaid : Prop := colorBackRow.holds Tryd.pinned (OpenSpec.ofChange colorBackSpec)

/-- ITS FALSE NEIGHBOUR: 'it returns false'. Refute it at one input. -/
def colorBackWrong : ChangeSpec := { name := "colorBack", fn := fun _ => fun
  | [d] => { results := [.lit (.bool false)], args := [d] }
  | _ => none }
def ColorBackWrongFalsely : Prop := colorBackRow.holds Tryd.pinned (OpenSpec.ofChange colorBackWrong)

/-- 'marqueelaw02.ColorScales': WHATEVER THE INPUT: true; the input reads as it did. -/
def colorScalesSpec : ChangeSpec := { name := "colorScales", fn := fun _ => fun
  | [d1, d2] => { results := [.lit (.bool true)], args := [d1, d2] }
  | _ => none }
def colorScalesRow : OpenClaim := { program := "ytdgadbhgcpfajaadoor", sum := "ba28676bff554ad1dd50158b41886475a36e19232913bbb545188bfe0f206f4e", func := "marquee/marqueelaw02.ColorScales", spec := "colorScales", inPlace := ["internal/bytealg.CountString", "internal/bytealg.IndexByteString", "internal/bytealg.IndexString", "internal/abi.NoEscape", "internal/bytealg.MakeNoZero"], unfollowed := true, recurses := true, named := ["unicode/utf8.first", "unicode/utf8.acceptRanges", "internal/bytealg.MaxLen"], plainKeys := false, apart := false, laid := [("unicode/utf8.acceptRanges", laid_unicode_utf8_acceptRanges), ("unicode/utf8.first", laid_unicode_utf8_first)] }
def ColorScalesSaid : Prop := colorScalesRow.holds Tryd.pinned (OpenSpec.ofChange colorScalesSpec)

/-- ITS FALSE NEIGHBOUR: 'it returns false'. Refute it at one input. -/
def colorScalesWrong : ChangeSpec := { name := "colorScales", fn := fun _ => fun
  | [d1, d2] => { results := [.lit (.bool false)], args := [d1, d2] }
  | _ => none }
def ColorScalesWrongFalsely : Prop := colorScalesRow.holds Tryd.pinned (OpenSpec.ofChange colorScalesWrong)

/- THE SECOND FORM. 'bulk': how many values and letters a reading holds, each counted each time it is reached (what is shared counts as often as it is met; a slice's spare places count too). A statement '..UptoSaid' is the law's where the arguments, and the package variables that the reading takes, are together of bulk at most 1048576: NARROWER than '..Said'. Prove '..Said' where nothing that the law and all that it calls make is longer than what came in: it says more and counts as full. Else prove '..UptoSaid'. A law counts once. -/
mutual
def uptoBulk {H : Type} : DataW H → Nat
  | .lit (.string bytes) => bytes.length + 1
  | .lit _ => 1
  | .nil => 1
  | .ptr d => uptoBulk d + 1
  | .slice elems spare => uptoBulkAll elems + uptoBulkAll spare + 1
  | .agg parts => uptoBulkAll parts + 1
  | .iface _ d => uptoBulk d + 1
  | .map entries => uptoBulkEntries entries + 1
  | .held _ => 1
def uptoBulkAll {H : Type} : List (DataW H) → Nat
  | [] => 0
  | d :: r => uptoBulk d + uptoBulkAll r
def uptoBulkEntries {H : Type} : List (Lit × DataW H) → Nat
  | [] => 0
  | x :: r => uptoBulkEntry x + uptoBulkEntries r
def uptoBulkEntry {H : Type} : Lit × DataW H → Nat
  | (.string bytes, d) => bytes.length + uptoBulk d + 1
  | (_, d) => uptoBulk d + 1
 end
def uptoSmall : (H : Type) → List (DataW H) → Bool := fun _ ds => decide (uptoBulkAll ds ≤ 1048576)
def OpenSpec.upto (s : _root_.Go.ChangeSpec) : _root_.Go.OpenSpec := { _root_.Go.OpenSpec.ofChange s with cond := some uptoSmall }

/-- 'marqueelaw02.ColorNear', WHERE WHAT IT READS IS OF BULK AT MOST 1048576: true; the input reads as it did. -/
def colorNearUptoRow : OpenClaim := { program := "ytdgadbhgcpfajaadoor", sum := "ba28676bff554ad1dd50158b41886475a36e19232913bbb545188bfe0f206f4e", func := "marquee/marqueelaw02.ColorNear", spec := "colorNear", inPlace := ["internal/bytealg.CountString", "internal/bytealg.IndexByteString", "internal/bytealg.IndexString", "internal/abi.NoEscape", "internal/bytealg.MakeNoZero"], unfollowed := true, recurses := true, named := ["unicode/utf8.first", "unicode/utf8.acceptRanges", "internal/bytealg.MaxLen"], plainKeys := false, apart := false, laid := [("unicode/utf8.acceptRanges", laid_unicode_utf8_acceptRanges), ("unicode/utf8.first", laid_unicode_utf8_first)], narrowed := true }
def ColorNearUptoSaid : Prop := colorNearUptoRow.holds Tryd.pinned (OpenSpec.upto colorNearSpec)

/-- 'marqueelaw02.ColorTells', WHERE WHAT IT READS IS OF BULK AT MOST 1048576: true; the input reads as it did. -/
def colorTellsUptoRow : OpenClaim := { program := "ytdgadbhgcpfajaadoor", sum := "ba28676bff554ad1dd50158b41886475a36e19232913bbb545188bfe0f206f4e", func := "marquee/marqueelaw02.ColorTells", spec := "colorTells", inPlace := ["internal/bytealg.CountString", "internal/bytealg.IndexByteString", "internal/bytealg.IndexString", "internal/abi.NoEscape", "internal/bytealg.MakeNoZero"], unfollowed := true, recurses := true, named := ["unicode/utf8.first", "unicode/utf8.acceptRanges", "internal/bytealg.MaxLen"], plainKeys := false, apart := false, laid := [("unicode/utf8.acceptRanges", laid_unicode_utf8_acceptRanges), ("unicode/utf8.first", laid_unicode_utf8_first)], narrowed := true }
def ColorTellsUptoSaid : Prop := colorTellsUptoRow.holds Tryd.pinned (OpenSpec.upto colorTellsSpec)

/-- 'marqueelaw02.ColorPalette', WHERE WHAT IT READS IS OF BULK AT MOST 1048576: true; the input reads as it did. -/
def colorPaletteUptoRow : OpenClaim := { program := "ytdgadbhgcpfajaadoor", sum := "ba28676bff554ad1dd50158b41886475a36e19232913bbb545188bfe0f206f4e", func := "marquee/marqueelaw02.ColorPalette", spec := "colorPalette", inPlace := ["internal/bytealg.CountString", "internal/bytealg.IndexByteString", "internal/bytealg.IndexString", "internal/abi.NoEscape", "internal/bytealg.MakeNoZero"], unfollowed := true, recurses := true, named := ["unicode/utf8.first", "unicode/utf8.acceptRanges", "internal/bytealg.MaxLen"], plainKeys := false, apart := false, laid := [("unicode/utf8.acceptRanges", laid_unicode_utf8_acceptRanges), ("unicode/utf8.first", laid_unicode_utf8_first)], narrowed := true }
def ColorPaletteUptoSaid : Prop := colorPaletteUptoRow.holds Tryd.pinned (OpenSpec.upto colorPaletteSpec)

/-- 'marqueelaw02.ColorKnown', WHERE WHAT IT READS IS OF BULK AT MOST 1048576: true; the input reads as it did. -/
def colorKnownUptoRow : OpenClaim := { program := "ytdgadbhgcpfajaadoor", sum := "ba28676bff554ad1dd50158b41886475a36e19232913bbb545188bfe0f206f4e", func := "marquee/marqueelaw02.ColorKnown", spec := "colorKnown", inPlace := ["internal/bytealg.CountString", "internal/bytealg.IndexByteString", "internal/bytealg.IndexString", "internal/abi.NoEscape", "internal/bytealg.MakeNoZero"], unfollowed := true, recurses := true, named := ["unicode/utf8.first", "unicode/utf8.acceptRanges", "internal/bytealg.MaxLen"], plainKeys := false, apart := false, laid := [("unicode/utf8.acceptRanges", laid_unicode_utf8_acceptRanges), ("unicode/utf8.first", laid_unicode_utf8_first)], narrowed := true }
def ColorKnownUptoSaid : Prop := colorKnownUptoRow.holds Tryd.pinned (OpenSpec.upto colorKnownSpec)

/-- 'marqueelaw02.ColorBack', WHERE WHAT IT READS IS OF BULK AT MOST 1048576: true; the input reads as it did. -/
def colorBackUptoRow : OpenClaim := { program := "ytdgadbhgcpfajaadoor", sum := "ba28676bff554ad1dd50158b41886475a36e19232913bbb545188bfe0f206f4e", func := "marquee/marqueelaw02.ColorBack", spec := "colorBack", inPlace := ["internal/bytealg.CountString", "internal/bytealg.IndexByteString", "internal/bytealg.IndexString", "internal/abi.NoEscape", "internal/bytealg.MakeNoZero"], unfollowed := true, recurses := true, named := ["unicode/utf8.first", "unicode/utf8.acceptRanges", "internal/bytealg.MaxLen", "unicode.CaseRanges"], plainKeys := false, apart := false, laid := [("unicode/utf8.acceptRanges", laid_unicode_utf8_acceptRanges), ("unicode.CaseRanges", laid_unicode_CaseRanges), ("unicode/utf8.first", laid_unicode_utf8_first)], narrowed := true }
def ColorBackUptoSaid : Prop := colorBackUptoRow.holds Tryd.pinned (OpenSpec.upto colorBackSpec)

/-- 'marqueelaw02.ColorScales', WHERE WHAT IT READS IS OF BULK AT MOST 1048576: true; the input reads as it did. -/
def colorScalesUptoRow : OpenClaim := { program := "ytdgadbhgcpfajaadoor", sum := "ba28676bff554ad1dd50158b41886475a36e19232913bbb545188bfe0f206f4e", func := "marquee/marqueelaw02.ColorScales", spec := "colorScales", inPlace := ["internal/bytealg.CountString", "internal/bytealg.IndexByteString", "internal/bytealg.IndexString", "internal/abi.NoEscape", "internal/bytealg.MakeNoZero"], unfollowed := true, recurses := true, named := ["unicode/utf8.first", "unicode/utf8.acceptRanges", "internal/bytealg.MaxLen"], plainKeys := false, apart := false, laid := [("unicode/utf8.acceptRanges", laid_unicode_utf8_acceptRanges), ("unicode/utf8.first", laid_unicode_utf8_first)], narrowed := true }
def ColorScalesUptoSaid : Prop := colorScalesUptoRow.holds Tryd.pinned (OpenSpec.upto colorScalesSpec)

end Rows
end Go.Proofs.YtdgadbhgcpfajaaDoor
