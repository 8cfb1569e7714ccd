/-
  Texts of this session, one behind the other: PaGlobs.
-/
import Derived.Test.YtbbkdhlfgekagaaDoorPart17
import Derived.Test.YtbbkdhlfgekagaaDoorRows
import Derived.Lib.LaidU8
namespace Go.Proofs.YtbbkdhlfgekagaaDoor
open Go Go.Am Go.ChangeShapes Go.WideShapes Go.ChangeAt Go.RowKit Go.Shelf
theorem extra : U8Extra Tryd.prog ren := ⟨by kernel_rfl, by kernel_rfl, by kernel_rfl, by kernel_rfl, by kernel_rfl, by kernel_rfl, by kernel_rfl⟩
abbrev listed : List (String × DataW Unit) := Rows.paramBackRow.laid
theorem inP : ("internal/strconv.uint64pow10", Lib.tabData .u64 Lib.pow10Tab) ∈ listed := List.Mem.tail _ (List.Mem.tail _ (by rw [show Lib.tabData .u64 Lib.pow10Tab = Rows.laid_internal_strconv_uint64pow10 by kernel_rfl]; exact List.Mem.head _))
theorem inA : ("unicode/utf8.acceptRanges", Lib.acceptData) ∈ listed := List.Mem.tail _ (List.Mem.tail _ (List.Mem.tail _ (by rw [show Lib.acceptData = Rows.laid_unicode_utf8_acceptRanges by kernel_rfl]; exact List.Mem.head _)))
theorem inF : ("unicode/utf8.first", Lib.firstData) ∈ listed := List.Mem.tail _ (List.Mem.tail _ (List.Mem.tail _ (List.Mem.tail _ (by rw [show Lib.firstData = Rows.laid_unicode_utf8_first by kernel_rfl]; exact List.Mem.head _))))
theorem globs_all {W : World} (hl : laidMet Tryd.prog listed W) : Globs EP W := by
  have h12 : Globs { E with G := utf8G 1 2 } W := globs_of_tabs (fun _ => rfl) (utf8Tabs_of_reads (ρ := ren) { lays230 with } extra (Lib.laidMet.reads hl inF) (Lib.laidMet.reads hl inA))
    (fun C e z h => by
      have := laid_size (n := 256) (t := 84) (e := 5) hl inF (by kernel_rfl) (by kernel_rfl) (by kernel_rfl) (g := 1) h
      exact this.trans (by kernel_rfl))
    (fun C e z h => by
      have := laid_size (n := 16) (t := 88) (e := 87) hl inA (by kernel_rfl) (by kernel_rfl) (by kernel_rfl) (g := 2) h
      exact this.trans (by kernel_rfl))
  intro g cs hg
  have hg' : glob g = some cs := hg
  unfold glob at hg'
  split at hg'
  · exact h12 1 cs hg'
  · exact h12 2 cs hg'
  · cases hg'
    exact tab_globs (g := 3) hl (name := "internal/strconv.uint64pow10") (k := .u64) (zs := Lib.pow10Tab) (t := 104) (e := 96) (n := 20) inP (by kernel_rfl) (by kernel_rfl) (by kernel_rfl) (by kernel_rfl) (by kernel_rfl) (by kernel_rfl)
  · cases hg'
end Go.Proofs.YtbbkdhlfgekagaaDoor
