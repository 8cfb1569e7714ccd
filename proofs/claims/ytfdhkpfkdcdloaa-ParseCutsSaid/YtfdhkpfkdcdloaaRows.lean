/-
  No cell of these rows narrows 'for every input' (looked for: loops, veiled, ifaces, maps, wideKeys, modest, calm, conditions, laid).
  DERIVED. THE GIVEN ROWS OF THIS SEAT. 4 by the template 'for every input the law returns true; each argument reads behind the call as it read before'; 0 by the template 'total and deterministic' (their statements: YtfdhkpfkdcdloaaTotals.lean).
  GIVEN WITH THE SEED: the statements are not yours to turn. If you find one false, say at which input.
  Laid BY PROGRAM, IN A SANDBOX (cutbox-rows.mjs): the forced cells as the released guide's own fill.sh prints them over the translation 570848fc8c0c7daa… (all of the seat's roots in one cut). By AI agents, Wed Nov 11 2026. No macro, syntax, notation, axiom, sorry.
-/
import Derived.Test.YtfdhkpfkdcdloaaChecked
import GoSem.Claim
import GoSem.ClaimJoined
import GoSem.ClaimMapViews
import Derived.JoinedTies
import Derived.KernelRfl
namespace Go.Proofs.Ytfdhkpfkdcdloaa
/- THE CELL 'sum', in the pinned program and in every row, IS THE sha256 OF THE DUMP (.gsa) THAT YtfdhkpfkdcdloaaProg.lean LOADS. Nothing in Lean hashes anything: it is a label: what it is worth is what the hold of that sum in a sandbox is worth. -/
noncomputable def Try.pinned : Pinned := { name := "ytfdhkpfkdcdloaa", sum := "570848fc8c0c7daa9152933e0f5aaf4fc545a9310e3e08e25a204844def6b944", checked := Try.checked }
namespace Rows
def none {H : Type} : Left H := { results := [], args := [] }

/-- 'marqueelaw08.ParseApart': WHATEVER THE INPUT: true; the input reads as it did. -/
def parseApartSpec : ChangeSpec := { name := "parseApart", fn := fun _ => fun
  | [d1, d2, d3] => { results := [.lit (.bool true)], args := [d1, d2, d3] }
  | _ => none }
def parseApartRow : OpenClaim := { program := "ytfdhkpfkdcdloaa", sum := "570848fc8c0c7daa9152933e0f5aaf4fc545a9310e3e08e25a204844def6b944", func := "marquee/marqueelaw08.ParseApart", spec := "parseApart", unfollowed := true, recurses := true, apart := false }
def ParseApartSaid : Prop := parseApartRow.holds Try.pinned (OpenSpec.ofChange parseApartSpec)

/-- ITS FALSE NEIGHBOUR: 'it returns false'. Refute it at one input. -/
def parseApartWrong : ChangeSpec := { name := "parseApart", fn := fun _ => fun
  | [d1, d2, d3] => { results := [.lit (.bool false)], args := [d1, d2, d3] }
  | _ => none }
def ParseApartWrongFalsely : Prop := parseApartRow.holds Try.pinned (OpenSpec.ofChange parseApartWrong)

/-- 'marqueelaw08.ParseSame': WHATEVER THE INPUT: true; the input reads as it did. -/
def parseSameSpec : ChangeSpec := { name := "parseSame", fn := fun _ => fun
  | [d1, d2, d3] => { results := [.lit (.bool true)], args := [d1, d2, d3] }
  | _ => none }
def parseSameRow : OpenClaim := { program := "ytfdhkpfkdcdloaa", sum := "570848fc8c0c7daa9152933e0f5aaf4fc545a9310e3e08e25a204844def6b944", func := "marquee/marqueelaw08.ParseSame", spec := "parseSame", unfollowed := true, recurses := true, apart := false }
def ParseSameSaid : Prop := parseSameRow.holds Try.pinned (OpenSpec.ofChange parseSameSpec)

/-- ITS FALSE NEIGHBOUR: 'it returns false'. Refute it at one input. -/
def parseSameWrong : ChangeSpec := { name := "parseSame", fn := fun _ => fun
  | [d1, d2, d3] => { results := [.lit (.bool false)], args := [d1, d2, d3] }
  | _ => none }
def ParseSameWrongFalsely : Prop := parseSameRow.holds Try.pinned (OpenSpec.ofChange parseSameWrong)

/-- 'marqueelaw08.ParseCuts': WHATEVER THE INPUT: true; the input reads as it did. -/
def parseCutsSpec : ChangeSpec := { name := "parseCuts", fn := fun _ => fun
  | [d1, d2] => { results := [.lit (.bool true)], args := [d1, d2] }
  | _ => none }
def parseCutsRow : OpenClaim := { program := "ytfdhkpfkdcdloaa", sum := "570848fc8c0c7daa9152933e0f5aaf4fc545a9310e3e08e25a204844def6b944", func := "marquee/marqueelaw08.ParseCuts", spec := "parseCuts", unfollowed := true, recurses := true, apart := false }
def ParseCutsSaid : Prop := parseCutsRow.holds Try.pinned (OpenSpec.ofChange parseCutsSpec)

/-- ITS FALSE NEIGHBOUR: 'it returns false'. Refute it at one input. -/
def parseCutsWrong : ChangeSpec := { name := "parseCuts", fn := fun _ => fun
  | [d1, d2] => { results := [.lit (.bool false)], args := [d1, d2] }
  | _ => none }
def ParseCutsWrongFalsely : Prop := parseCutsRow.holds Try.pinned (OpenSpec.ofChange parseCutsWrong)

/-- 'marqueelaw08.ParseKnown': WHATEVER THE INPUT: true; the input reads as it did. -/
def parseKnownSpec : ChangeSpec := { name := "parseKnown", fn := fun _ => fun
  | [] => { results := [.lit (.bool true)], args := [] }
  | _ => none }
def parseKnownRow : OpenClaim := { program := "ytfdhkpfkdcdloaa", sum := "570848fc8c0c7daa9152933e0f5aaf4fc545a9310e3e08e25a204844def6b944", func := "marquee/marqueelaw08.ParseKnown", spec := "parseKnown", inPlace := ["internal/abi.NoEscape", "internal/bytealg.MakeNoZero"], unfollowed := true, recurses := true, apart := false }
def ParseKnownSaid : Prop := parseKnownRow.holds Try.pinned (OpenSpec.ofChange parseKnownSpec)

/-- ITS FALSE NEIGHBOUR: 'it returns false'. Refute it at one input. -/
def parseKnownWrong : ChangeSpec := { name := "parseKnown", fn := fun _ => fun
  | [] => { results := [.lit (.bool false)], args := [] }
  | _ => none }
def ParseKnownWrongFalsely : Prop := parseKnownRow.holds Try.pinned (OpenSpec.ofChange parseKnownWrong)

/- THE SECOND FORM. 'bulk': how many values and letters a reading holds, each counted each time it is reached (what is shared counts as often as it is met; a slice's spare places count too). A statement '..UptoSaid' is the law's where the arguments, and the package variables that the reading takes, are together of bulk at most 1048576: NARROWER than '..Said'. Prove '..Said' where nothing that the law and all that it calls make is longer than what came in: it says more and counts as full. Else prove '..UptoSaid'. A law counts once. -/
mutual
def uptoBulk {H : Type} : DataW H → Nat
  | .lit (.string bytes) => bytes.length + 1
  | .lit _ => 1
  | .nil => 1
  | .ptr d => uptoBulk d + 1
  | .slice elems spare => uptoBulkAll elems + uptoBulkAll spare + 1
  | .agg parts => uptoBulkAll parts + 1
  | .iface _ d => uptoBulk d + 1
  | .map entries => uptoBulkEntries entries + 1
  | .held _ => 1
def uptoBulkAll {H : Type} : List (DataW H) → Nat
  | [] => 0
  | d :: r => uptoBulk d + uptoBulkAll r
def uptoBulkEntries {H : Type} : List (Lit × DataW H) → Nat
  | [] => 0
  | x :: r => uptoBulkEntry x + uptoBulkEntries r
def uptoBulkEntry {H : Type} : Lit × DataW H → Nat
  | (.string bytes, d) => bytes.length + uptoBulk d + 1
  | (_, d) => uptoBulk d + 1
 end
def uptoSmall : (H : Type) → List (DataW H) → Bool := fun _ ds => decide (uptoBulkAll ds ≤ 1048576)
def OpenSpec.upto (s : _root_.Go.ChangeSpec) : _root_.Go.OpenSpec := { _root_.Go.OpenSpec.ofChange s with cond := some uptoSmall }

/-- 'marqueelaw08.ParseApart', WHERE WHAT IT READS IS OF BULK AT MOST 1048576: true; the input reads as it did. -/
def parseApartUptoRow : OpenClaim := { program := "ytfdhkpfkdcdloaa", sum := "570848fc8c0c7daa9152933e0f5aaf4fc545a9310e3e08e25a204844def6b944", func := "marquee/marqueelaw08.ParseApart", spec := "parseApart", unfollowed := true, recurses := true, apart := false, narrowed := true }
def ParseApartUptoSaid : Prop := parseApartUptoRow.holds Try.pinned (OpenSpec.upto parseApartSpec)

/-- 'marqueelaw08.ParseSame', WHERE WHAT IT READS IS OF BULK AT MOST 1048576: true; the input reads as it did. -/
def parseSameUptoRow : OpenClaim := { program := "ytfdhkpfkdcdloaa", sum := "570848fc8c0c7daa9152933e0f5aaf4fc545a9310e3e08e25a204844def6b944", func := "marquee/marqueelaw08.ParseSame", spec := "parseSame", unfollowed := true, recurses := true, apart := false, narrowed := true }
def ParseSameUptoSaid : Prop := parseSameUptoRow.holds Try.pinned (OpenSpec.upto parseSameSpec)

/-- 'marqueelaw08.ParseCuts', WHERE WHAT IT READS IS OF BULK AT MOST 1048576: true; the input reads as it did. -/
def parseCutsUptoRow : OpenClaim := { program := "ytfdhkpfkdcdloaa", sum := "570848fc8c0c7daa9152933e0f5aaf4fc545a9310e3e08e25a204844def6b944", func := "marquee/marqueelaw08.ParseCuts", spec := "parseCuts", unfollowed := true, recurses := true, apart := false, narrowed := true }
def ParseCutsUptoSaid : Prop := parseCutsUptoRow.holds Try.pinned (OpenSpec.upto parseCutsSpec)

/-- 'marqueelaw08.ParseKnown', WHERE WHAT IT READS IS OF BULK AT MOST 1048576: true; the input reads as it did. -/
def parseKnownUptoRow : OpenClaim := { program := "ytfdhkpfkdcdloaa", sum := "570848fc8c0c7daa9152933e0f5aaf4fc545a9310e3e08e25a204844def6b944", func := "marquee/marqueelaw08.ParseKnown", spec := "parseKnown", inPlace := ["internal/abi.NoEscape", "internal/bytealg.MakeNoZero"], unfollowed := true, recurses := true, apart := false, narrowed := true }
def ParseKnownUptoSaid : Prop := parseKnownUptoRow.holds Try.pinned (OpenSpec.upto parseKnownSpec)

end Rows
end Go.Proofs.Ytfdhkpfkdcdloaa
