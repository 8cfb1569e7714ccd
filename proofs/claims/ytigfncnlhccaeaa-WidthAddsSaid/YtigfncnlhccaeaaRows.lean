/-
  No cell of these rows narrows 'for every input' (looked for: loops, veiled, ifaces, maps, wideKeys, modest, calm, conditions, laid).
  DERIVED. THE GIVEN ROWS OF THIS SEAT. 3 by the template 'for every input the law returns true; each argument reads behind the call as it read before'; 0 by the template 'total and deterministic' (their statements: YtigfncnlhccaeaaTotals.lean).
  GIVEN WITH THE SEED: the statements are not yours to turn. If you find one false, say at which input.
  Laid BY PROGRAM, IN A SANDBOX (cutbox-rows.mjs): the forced cells as the released guide's own fill.sh prints them over the translation 2593f55178c80c67… (all of the seat's roots in one cut). By AI agents, Wed Nov 11 2026. No macro, syntax, notation, axiom, sorry.
-/
import Derived.Test.YtigfncnlhccaeaaChecked
import GoSem.Claim
import GoSem.ClaimJoined
import GoSem.ClaimMapViews
import Derived.JoinedTies
import Derived.KernelRfl
namespace Go.Proofs.Ytigfncnlhccaeaa
/- THE CELL 'sum', in the pinned program and in every row, IS THE sha256 OF THE DUMP (.gsa) THAT YtigfncnlhccaeaaProg.lean LOADS. Nothing in Lean hashes anything: it is a label: what it is worth is what the hold of that sum in a sandbox is worth. -/
noncomputable def Try.pinned : Pinned := { name := "ytigfncnlhccaeaa", sum := "2593f55178c80c67a5e43e9eeabbd77d4ff74609d5a4d9c9ec99deb5bda1b222", checked := Try.checked }
namespace Rows
def none {H : Type} : Left H := { results := [], args := [] }

/-- 'marqueelaw04.WidthRanges': WHATEVER THE INPUT: true; the input reads as it did. -/
def widthRangesSpec : ChangeSpec := { name := "widthRanges", fn := fun _ => fun
  | [d] => { results := [.lit (.bool true)], args := [d] }
  | _ => none }
def widthRangesRow : OpenClaim := { program := "ytigfncnlhccaeaa", sum := "2593f55178c80c67a5e43e9eeabbd77d4ff74609d5a4d9c9ec99deb5bda1b222", func := "marquee/marqueelaw04.WidthRanges", spec := "widthRanges", unfollowed := true, recurses := true, apart := false }
def WidthRangesSaid : Prop := widthRangesRow.holds Try.pinned (OpenSpec.ofChange widthRangesSpec)

/-- ITS FALSE NEIGHBOUR: 'it returns false'. Refute it at one input. -/
def widthRangesWrong : ChangeSpec := { name := "widthRanges", fn := fun _ => fun
  | [d] => { results := [.lit (.bool false)], args := [d] }
  | _ => none }
def WidthRangesWrongFalsely : Prop := widthRangesRow.holds Try.pinned (OpenSpec.ofChange widthRangesWrong)

/-- 'marqueelaw04.WidthAdds': WHATEVER THE INPUT: true; the input reads as it did. -/
def widthAddsSpec : ChangeSpec := { name := "widthAdds", fn := fun _ => fun
  | [d1, d2] => { results := [.lit (.bool true)], args := [d1, d2] }
  | _ => none }
def widthAddsRow : OpenClaim := { program := "ytigfncnlhccaeaa", sum := "2593f55178c80c67a5e43e9eeabbd77d4ff74609d5a4d9c9ec99deb5bda1b222", func := "marquee/marqueelaw04.WidthAdds", spec := "widthAdds", inPlace := ["internal/abi.NoEscape"], unfollowed := true, recurses := true, apart := false }
def WidthAddsSaid : Prop := widthAddsRow.holds Try.pinned (OpenSpec.ofChange widthAddsSpec)

/-- ITS FALSE NEIGHBOUR: 'it returns false'. Refute it at one input. -/
def widthAddsWrong : ChangeSpec := { name := "widthAdds", fn := fun _ => fun
  | [d1, d2] => { results := [.lit (.bool false)], args := [d1, d2] }
  | _ => none }
def WidthAddsWrongFalsely : Prop := widthAddsRow.holds Try.pinned (OpenSpec.ofChange widthAddsWrong)

/-- 'marqueelaw04.WidthKnown': WHATEVER THE INPUT: true; the input reads as it did. -/
def widthKnownSpec : ChangeSpec := { name := "widthKnown", fn := fun _ => fun
  | [] => { results := [.lit (.bool true)], args := [] }
  | _ => none }
def widthKnownRow : OpenClaim := { program := "ytigfncnlhccaeaa", sum := "2593f55178c80c67a5e43e9eeabbd77d4ff74609d5a4d9c9ec99deb5bda1b222", func := "marquee/marqueelaw04.WidthKnown", spec := "widthKnown", inPlace := ["internal/abi.NoEscape"], unfollowed := true, recurses := true, apart := false }
def WidthKnownSaid : Prop := widthKnownRow.holds Try.pinned (OpenSpec.ofChange widthKnownSpec)

/-- ITS FALSE NEIGHBOUR: 'it returns false'. Refute it at one input. -/
def widthKnownWrong : ChangeSpec := { name := "widthKnown", fn := fun _ => fun
  | [] => { results := [.lit (.bool false)], args := [] }
  | _ => none }
def WidthKnownWrongFalsely : Prop := widthKnownRow.holds Try.pinned (OpenSpec.ofChange widthKnownWrong)

/- THE SECOND FORM. 'bulk': how many values and letters a reading holds, each counted each time it is reached (what is shared counts as often as it is met; a slice's spare places count too). A statement '..UptoSaid' is the law's where the arguments, and the package variables that the reading takes, are together of bulk at most 1048576: NARROWER than '..Said'. Prove '..Said' where nothing that the law and all that it calls make is longer than what came in: it says more and counts as full. Else prove '..UptoSaid'. A law counts once. -/
mutual
def uptoBulk {H : Type} : DataW H → Nat
  | .lit (.string bytes) => bytes.length + 1
  | .lit _ => 1
  | .nil => 1
  | .ptr d => uptoBulk d + 1
  | .slice elems spare => uptoBulkAll elems + uptoBulkAll spare + 1
  | .agg parts => uptoBulkAll parts + 1
  | .iface _ d => uptoBulk d + 1
  | .map entries => uptoBulkEntries entries + 1
  | .held _ => 1
def uptoBulkAll {H : Type} : List (DataW H) → Nat
  | [] => 0
  | d :: r => uptoBulk d + uptoBulkAll r
def uptoBulkEntries {H : Type} : List (Lit × DataW H) → Nat
  | [] => 0
  | x :: r => uptoBulkEntry x + uptoBulkEntries r
def uptoBulkEntry {H : Type} : Lit × DataW H → Nat
  | (.string bytes, d) => bytes.length + uptoBulk d + 1
  | (_, d) => uptoBulk d + 1
 end
def uptoSmall : (H : Type) → List (DataW H) → Bool := fun _ ds => decide (uptoBulkAll ds ≤ 1048576)
def OpenSpec.upto (s : _root_.Go.ChangeSpec) : _root_.Go.OpenSpec := { _root_.Go.OpenSpec.ofChange s with cond := some uptoSmall }

/-- 'marqueelaw04.WidthRanges', WHERE WHAT IT READS IS OF BULK AT MOST 1048576: true; the input reads as it did. -/
def widthRangesUptoRow : OpenClaim := { program := "ytigfncnlhccaeaa", sum := "2593f55178c80c67a5e43e9eeabbd77d4ff74609d5a4d9c9ec99deb5bda1b222", func := "marquee/marqueelaw04.WidthRanges", spec := "widthRanges", unfollowed := true, recurses := true, apart := false, narrowed := true }
def WidthRangesUptoSaid : Prop := widthRangesUptoRow.holds Try.pinned (OpenSpec.upto widthRangesSpec)

/-- 'marqueelaw04.WidthAdds', WHERE WHAT IT READS IS OF BULK AT MOST 1048576: true; the input reads as it did. -/
def widthAddsUptoRow : OpenClaim := { program := "ytigfncnlhccaeaa", sum := "2593f55178c80c67a5e43e9eeabbd77d4ff74609d5a4d9c9ec99deb5bda1b222", func := "marquee/marqueelaw04.WidthAdds", spec := "widthAdds", inPlace := ["internal/abi.NoEscape"], unfollowed := true, recurses := true, apart := false, narrowed := true }
def WidthAddsUptoSaid : Prop := widthAddsUptoRow.holds Try.pinned (OpenSpec.upto widthAddsSpec)

/-- 'marqueelaw04.WidthKnown', WHERE WHAT IT READS IS OF BULK AT MOST 1048576: true; the input reads as it did. -/
def widthKnownUptoRow : OpenClaim := { program := "ytigfncnlhccaeaa", sum := "2593f55178c80c67a5e43e9eeabbd77d4ff74609d5a4d9c9ec99deb5bda1b222", func := "marquee/marqueelaw04.WidthKnown", spec := "widthKnown", inPlace := ["internal/abi.NoEscape"], unfollowed := true, recurses := true, apart := false, narrowed := true }
def WidthKnownUptoSaid : Prop := widthKnownUptoRow.holds Try.pinned (OpenSpec.upto widthKnownSpec)

end Rows
end Go.Proofs.Ytigfncnlhccaeaa
