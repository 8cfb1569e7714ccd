/-
  Texts of this session, one behind the other: AtEnv, AtK0, AtK1, AtK2, AtK3, AtK4, AtK5, AtK6, AtK7, AtTab, AtKnown, AtS0, AtG1, AtC1, AtG2, AtG3, AtC2, AtG4, AtC3, AtG5, AtC4, AtG6, AtC5, AtG7, AtC6, AtG8, AtC7.
-/
import Derived.Test.YthmmpfaghmoenaaDoorPart11
import Derived.Test.YthmmpfaghmoenaaDoorProg
import Derived.KernelRfl
namespace Go.Proofs.YthmmpfaghmoenaaDoor
open Go Go.Am
def std : Std := { ne := some 74, mz := some (75, 5) }
set_option maxRecDepth 100000 in
theorem std_ok : std.Ok Tryd.prog where
  mixed := by kernel_rfl
  names := by kernel_rfl
  ix f h := by cases h
  ct f h := by cases h
  ne f h := by
    have : 74 = f := by simpa [std] using h
    subst this
    exact ⟨⟨_, rfl, by kernel_rfl, by kernel_rfl, by kernel_rfl, rfl⟩⟩
  mz f e h := by
    have : 75 = f ∧ 5 = e := by simpa [std] using h
    obtain ⟨rfl, rfl⟩ := this
    exact ⟨_, _, ⟨⟨_, rfl, by kernel_rfl, by kernel_rfl, by kernel_rfl, rfl⟩⟩, by kernel_rfl, by kernel_rfl⟩
def pow10s : List Int := [1, 10, 100, 1000, 10000, 100000, 1000000, 10000000, 100000000, 1000000000, 10000000000, 100000000000, 1000000000000, 10000000000000, 100000000000000, 1000000000000000, 10000000000000000, 100000000000000000, 1000000000000000000, 10000000000000000000]
def glob (g : Nat) : Option (List V) := match g with | 1 => some (tabCells .u64 pow10s) | _ => none
noncomputable def E : Env := { stdEnv Tryd.prog std with G := glob }
theorem E_ok : E.Ok := (stdEnv_ok std_ok).withG glob
end Go.Proofs.YthmmpfaghmoenaaDoor

namespace Go.Proofs.YthmmpfaghmoenaaDoor
open Go Go.Am
theorem atk0 : evCall E 1000 27 [(.str [54, 59, 49, 48, 59, 50, 54, 59, 53, 48, 59, 57, 56, 59, 49, 48, 56])] [] = some (.pure (.agg [(.int .u8 0), (.int .u8 0), (.int .u8 0), (.int .u8 0), (.int .u8 0), (.int .u8 0), (.int .u8 0), (.int .u8 0), (.int .u16 0)])) := by kernel_rfl
theorem atk1 : evCall E 1000 27 [(.str [51, 56, 59, 50, 59, 49, 59, 50, 59, 51, 48, 48, 59, 49])] [] = some (.pure (.agg [(.int .u8 0), (.int .u8 0), (.int .u8 0), (.int .u8 0), (.int .u8 0), (.int .u8 0), (.int .u8 0), (.int .u8 0), (.int .u16 1)])) := by kernel_rfl
theorem atk2 : evCall E 1000 27 [(.str [51, 56, 58, 53])] [] = some (.pure (.agg [(.int .u8 0), (.int .u8 0), (.int .u8 0), (.int .u8 0), (.int .u8 0), (.int .u8 0), (.int .u8 0), (.int .u8 0), (.int .u16 0)])) := by kernel_rfl
end Go.Proofs.YthmmpfaghmoenaaDoor

namespace Go.Proofs.YthmmpfaghmoenaaDoor
open Go Go.Am
theorem atk3 : evCall E 1000 23 [(.agg [(.int .u8 1), (.int .u8 7), (.int .u8 0), (.int .u8 0), (.int .u8 1), (.int .u8 16), (.int .u8 0), (.int .u8 0), (.int .u16 511)])] [] = some (.pure (.str [48, 59, 49, 59, 50, 59, 51, 59, 52, 59, 53, 59, 55, 59, 56, 59, 57, 59, 50, 49, 59, 51, 55, 59, 52, 56, 59, 53, 59, 49, 54])) := by kernel_rfl
theorem atk4 : evCall E 1000 27 [(.str [51, 56, 59, 53, 59, 50, 48, 48, 59, 52])] [] = some (.pure (.agg [(.int .u8 1), (.int .u8 200), (.int .u8 0), (.int .u8 0), (.int .u8 0), (.int .u8 0), (.int .u8 0), (.int .u8 0), (.int .u16 8)])) := by kernel_rfl
theorem atk5 : evCall E 1000 27 [(.str [52, 58, 48])] [] = some (.pure (.agg [(.int .u8 0), (.int .u8 0), (.int .u8 0), (.int .u8 0), (.int .u8 0), (.int .u8 0), (.int .u8 0), (.int .u8 0), (.int .u16 0)])) := by kernel_rfl
end Go.Proofs.YthmmpfaghmoenaaDoor

namespace Go.Proofs.YthmmpfaghmoenaaDoor
open Go Go.Am
theorem atk6 : evCall E 1000 27 [(.str [52, 58, 49])] [] = some (.pure (.agg [(.int .u8 0), (.int .u8 0), (.int .u8 0), (.int .u8 0), (.int .u8 0), (.int .u8 0), (.int .u8 0), (.int .u8 0), (.int .u16 8)])) := by kernel_rfl
theorem atk7 : evCall E 1000 27 [(.str [52, 58, 50])] [] = some (.pure (.agg [(.int .u8 0), (.int .u8 0), (.int .u8 0), (.int .u8 0), (.int .u8 0), (.int .u8 0), (.int .u8 0), (.int .u8 0), (.int .u16 256)])) := by kernel_rfl
theorem atk8 : evCall E 1000 27 [(.str [51, 56, 59, 53, 59, 49, 58, 49, 59, 55])] [] = some (.pure (.agg [(.int .u8 0), (.int .u8 0), (.int .u8 0), (.int .u8 0), (.int .u8 0), (.int .u8 0), (.int .u8 0), (.int .u8 0), (.int .u16 32)])) := by kernel_rfl
theorem atk9 : evCall E 1000 23 [(.agg [(.int .u8 0), (.int .u8 0), (.int .u8 0), (.int .u8 0), (.int .u8 0), (.int .u8 0), (.int .u8 0), (.int .u8 0), (.int .u16 0)])] [] = some (.pure (.str [48])) := by kernel_rfl
end Go.Proofs.YthmmpfaghmoenaaDoor

namespace Go.Proofs.YthmmpfaghmoenaaDoor
open Go Go.Am
theorem atk10 : evCall E 1000 27 [(.str [52, 56, 58, 50, 58, 58, 49, 58, 50, 58, 51])] [] = some (.pure (.agg [(.int .u8 0), (.int .u8 0), (.int .u8 0), (.int .u8 0), (.int .u8 2), (.int .u8 1), (.int .u8 2), (.int .u8 3), (.int .u16 0)])) := by kernel_rfl
theorem atk11 : evCall E 1000 27 [(.str [51, 56, 59, 50, 59, 49, 59, 50])] [] = some (.pure (.agg [(.int .u8 0), (.int .u8 0), (.int .u8 0), (.int .u8 0), (.int .u8 0), (.int .u8 0), (.int .u8 0), (.int .u8 0), (.int .u16 0)])) := by kernel_rfl
theorem atk12 : evCall E 1000 27 [(.str [51, 56, 59, 53, 59, 59, 49])] [] = some (.pure (.agg [(.int .u8 1), (.int .u8 0), (.int .u8 0), (.int .u8 0), (.int .u8 0), (.int .u8 0), (.int .u8 0), (.int .u8 0), (.int .u16 1)])) := by kernel_rfl
theorem atk13 : evCall E 1000 23 [(.agg [(.int .u8 0), (.int .u8 0), (.int .u8 0), (.int .u8 0), (.int .u8 1), (.int .u8 15), (.int .u8 0), (.int .u8 0), (.int .u16 0)])] [] = some (.pure (.str [48, 59, 49, 48, 55])) := by kernel_rfl
end Go.Proofs.YthmmpfaghmoenaaDoor

namespace Go.Proofs.YthmmpfaghmoenaaDoor
open Go Go.Am
theorem atk14 : evCall E 1000 27 [(.str [51, 56, 59, 50, 58, 49, 59, 49])] [] = some (.pure (.agg [(.int .u8 0), (.int .u8 0), (.int .u8 0), (.int .u8 0), (.int .u8 0), (.int .u8 0), (.int .u8 0), (.int .u8 0), (.int .u16 1)])) := by kernel_rfl
theorem atk15 : evCall E 1000 27 [(.str [52, 56, 59, 51, 56, 59, 49])] [] = some (.pure (.agg [(.int .u8 0), (.int .u8 0), (.int .u8 0), (.int .u8 0), (.int .u8 0), (.int .u8 0), (.int .u8 0), (.int .u8 0), (.int .u16 1)])) := by kernel_rfl
theorem atk16 : evCall E 1000 27 [(.str [51, 56, 58, 50, 58, 49, 58, 50])] [] = some (.pure (.agg [(.int .u8 0), (.int .u8 0), (.int .u8 0), (.int .u8 0), (.int .u8 0), (.int .u8 0), (.int .u8 0), (.int .u8 0), (.int .u16 0)])) := by kernel_rfl
theorem atk17 : evCall E 1000 27 [(.str [51, 56, 59, 53])] [] = some (.pure (.agg [(.int .u8 0), (.int .u8 0), (.int .u8 0), (.int .u8 0), (.int .u8 0), (.int .u8 0), (.int .u8 0), (.int .u8 0), (.int .u16 0)])) := by kernel_rfl
end Go.Proofs.YthmmpfaghmoenaaDoor

namespace Go.Proofs.YthmmpfaghmoenaaDoor
open Go Go.Am
theorem atk18 : evCall E 1000 27 [(.str [49, 59, 50, 59, 50, 50])] [] = some (.pure (.agg [(.int .u8 0), (.int .u8 0), (.int .u8 0), (.int .u8 0), (.int .u8 0), (.int .u8 0), (.int .u8 0), (.int .u8 0), (.int .u16 0)])) := by kernel_rfl
theorem atk19 : evCall E 1000 27 [(.str [51, 56, 58, 53, 58, 50, 53, 54])] [] = some (.pure (.agg [(.int .u8 0), (.int .u8 0), (.int .u8 0), (.int .u8 0), (.int .u8 0), (.int .u8 0), (.int .u8 0), (.int .u8 0), (.int .u16 0)])) := by kernel_rfl
theorem atk20 : evCall E 1000 27 [(.str [51, 56, 59, 55, 59, 49])] [] = some (.pure (.agg [(.int .u8 0), (.int .u8 0), (.int .u8 0), (.int .u8 0), (.int .u8 0), (.int .u8 0), (.int .u8 0), (.int .u8 0), (.int .u16 1)])) := by kernel_rfl
theorem atk21 : evCall E 1000 23 [(.agg [(.int .u8 1), (.int .u8 9), (.int .u8 0), (.int .u8 0), (.int .u8 2), (.int .u8 1), (.int .u8 2), (.int .u8 3), (.int .u16 257)])] [] = some (.pure (.str [48, 59, 49, 59, 50, 49, 59, 57, 49, 59, 52, 56, 59, 50, 59, 49, 59, 50, 59, 51])) := by kernel_rfl
end Go.Proofs.YthmmpfaghmoenaaDoor

namespace Go.Proofs.YthmmpfaghmoenaaDoor
open Go Go.Am
theorem atk22 : evCall E 1000 27 [(.str [57, 55, 59, 49, 48, 48])] [] = some (.pure (.agg [(.int .u8 1), (.int .u8 15), (.int .u8 0), (.int .u8 0), (.int .u8 1), (.int .u8 8), (.int .u8 0), (.int .u8 0), (.int .u16 0)])) := by kernel_rfl
theorem atk23 : evCall E 1000 27 [(.str [52, 59, 50, 49])] [] = some (.pure (.agg [(.int .u8 0), (.int .u8 0), (.int .u8 0), (.int .u8 0), (.int .u8 0), (.int .u8 0), (.int .u8 0), (.int .u8 0), (.int .u16 256)])) := by kernel_rfl
theorem atk24 : evCall E 1000 27 [(.str [50, 49, 59, 52])] [] = some (.pure (.agg [(.int .u8 0), (.int .u8 0), (.int .u8 0), (.int .u8 0), (.int .u8 0), (.int .u8 0), (.int .u8 0), (.int .u8 0), (.int .u16 8)])) := by kernel_rfl
theorem atk25 : evCall E 1000 27 [(.str [49, 59, 51, 49])] [] = some (.pure (.agg [(.int .u8 1), (.int .u8 1), (.int .u8 0), (.int .u8 0), (.int .u8 0), (.int .u8 0), (.int .u8 0), (.int .u8 0), (.int .u16 1)])) := by kernel_rfl
end Go.Proofs.YthmmpfaghmoenaaDoor

namespace Go.Proofs.YthmmpfaghmoenaaDoor
open Go Go.Am
theorem atk26 : evCall E 1000 27 [(.str [49, 59])] [] = some (.pure (.agg [(.int .u8 0), (.int .u8 0), (.int .u8 0), (.int .u8 0), (.int .u8 0), (.int .u8 0), (.int .u8 0), (.int .u8 0), (.int .u16 0)])) := by kernel_rfl
theorem atk27 : evCall E 1000 27 [(.str [52, 58, 51])] [] = some (.pure (.agg [(.int .u8 0), (.int .u8 0), (.int .u8 0), (.int .u8 0), (.int .u8 0), (.int .u8 0), (.int .u8 0), (.int .u8 0), (.int .u16 0)])) := by kernel_rfl
theorem atk28 : evCall E 1000 27 [(.str [49, 58, 49])] [] = some (.pure (.agg [(.int .u8 0), (.int .u8 0), (.int .u8 0), (.int .u8 0), (.int .u8 0), (.int .u8 0), (.int .u8 0), (.int .u8 0), (.int .u16 0)])) := by kernel_rfl
theorem atk29 : evCall E 1000 27 [(.str [51, 56])] [] = some (.pure (.agg [(.int .u8 0), (.int .u8 0), (.int .u8 0), (.int .u8 0), (.int .u8 0), (.int .u8 0), (.int .u8 0), (.int .u8 0), (.int .u16 0)])) := by kernel_rfl
end Go.Proofs.YthmmpfaghmoenaaDoor

namespace Go.Proofs.YthmmpfaghmoenaaDoor
open Go Go.Am
def attab23 : List (List V × V) := [
  ([(.agg [(.int .u8 1), (.int .u8 7), (.int .u8 0), (.int .u8 0), (.int .u8 1), (.int .u8 16), (.int .u8 0), (.int .u8 0), (.int .u16 511)])], (.str [48, 59, 49, 59, 50, 59, 51, 59, 52, 59, 53, 59, 55, 59, 56, 59, 57, 59, 50, 49, 59, 51, 55, 59, 52, 56, 59, 53, 59, 49, 54])),
  ([(.agg [(.int .u8 0), (.int .u8 0), (.int .u8 0), (.int .u8 0), (.int .u8 0), (.int .u8 0), (.int .u8 0), (.int .u8 0), (.int .u16 0)])], (.str [48])),
  ([(.agg [(.int .u8 0), (.int .u8 0), (.int .u8 0), (.int .u8 0), (.int .u8 1), (.int .u8 15), (.int .u8 0), (.int .u8 0), (.int .u16 0)])], (.str [48, 59, 49, 48, 55])),
  ([(.agg [(.int .u8 1), (.int .u8 9), (.int .u8 0), (.int .u8 0), (.int .u8 2), (.int .u8 1), (.int .u8 2), (.int .u8 3), (.int .u16 257)])], (.str [48, 59, 49, 59, 50, 49, 59, 57, 49, 59, 52, 56, 59, 50, 59, 49, 59, 50, 59, 51]))]
noncomputable def E1At0 : Env := E.know 23 (tabS attab23)
theorem E1At0_base : ∀ p ∈ attab23, (∃ m, evCall E m 23 p.1 [] = some (.pure p.2)) ∧ (p.2.flat && p.1.all V.flat) = true := by
  unfold attab23
  refine List.forall_mem_cons.2 ⟨⟨⟨1000, atk3⟩, rfl⟩, ?_⟩
  refine List.forall_mem_cons.2 ⟨⟨⟨1000, atk9⟩, rfl⟩, ?_⟩
  refine List.forall_mem_cons.2 ⟨⟨⟨1000, atk13⟩, rfl⟩, ?_⟩
  refine List.forall_mem_cons.2 ⟨⟨⟨1000, atk21⟩, rfl⟩, ?_⟩
  exact fun p hp => by cases hp
theorem E1At0_ok : E1At0.Ok := E_ok.knowTab attab23 E1At0_base
def attab27 : List (List V × V) := [
  ([(.str [54, 59, 49, 48, 59, 50, 54, 59, 53, 48, 59, 57, 56, 59, 49, 48, 56])], (.agg [(.int .u8 0), (.int .u8 0), (.int .u8 0), (.int .u8 0), (.int .u8 0), (.int .u8 0), (.int .u8 0), (.int .u8 0), (.int .u16 0)])),
  ([(.str [51, 56, 59, 50, 59, 49, 59, 50, 59, 51, 48, 48, 59, 49])], (.agg [(.int .u8 0), (.int .u8 0), (.int .u8 0), (.int .u8 0), (.int .u8 0), (.int .u8 0), (.int .u8 0), (.int .u8 0), (.int .u16 1)])),
  ([(.str [51, 56, 58, 53])], (.agg [(.int .u8 0), (.int .u8 0), (.int .u8 0), (.int .u8 0), (.int .u8 0), (.int .u8 0), (.int .u8 0), (.int .u8 0), (.int .u16 0)])),
  ([(.str [51, 56, 59, 53, 59, 50, 48, 48, 59, 52])], (.agg [(.int .u8 1), (.int .u8 200), (.int .u8 0), (.int .u8 0), (.int .u8 0), (.int .u8 0), (.int .u8 0), (.int .u8 0), (.int .u16 8)])),
  ([(.str [52, 58, 48])], (.agg [(.int .u8 0), (.int .u8 0), (.int .u8 0), (.int .u8 0), (.int .u8 0), (.int .u8 0), (.int .u8 0), (.int .u8 0), (.int .u16 0)])),
  ([(.str [52, 58, 49])], (.agg [(.int .u8 0), (.int .u8 0), (.int .u8 0), (.int .u8 0), (.int .u8 0), (.int .u8 0), (.int .u8 0), (.int .u8 0), (.int .u16 8)])),
  ([(.str [52, 58, 50])], (.agg [(.int .u8 0), (.int .u8 0), (.int .u8 0), (.int .u8 0), (.int .u8 0), (.int .u8 0), (.int .u8 0), (.int .u8 0), (.int .u16 256)])),
  ([(.str [51, 56, 59, 53, 59, 49, 58, 49, 59, 55])], (.agg [(.int .u8 0), (.int .u8 0), (.int .u8 0), (.int .u8 0), (.int .u8 0), (.int .u8 0), (.int .u8 0), (.int .u8 0), (.int .u16 32)])),
  ([(.str [52, 56, 58, 50, 58, 58, 49, 58, 50, 58, 51])], (.agg [(.int .u8 0), (.int .u8 0), (.int .u8 0), (.int .u8 0), (.int .u8 2), (.int .u8 1), (.int .u8 2), (.int .u8 3), (.int .u16 0)])),
  ([(.str [51, 56, 59, 50, 59, 49, 59, 50])], (.agg [(.int .u8 0), (.int .u8 0), (.int .u8 0), (.int .u8 0), (.int .u8 0), (.int .u8 0), (.int .u8 0), (.int .u8 0), (.int .u16 0)])),
  ([(.str [51, 56, 59, 53, 59, 59, 49])], (.agg [(.int .u8 1), (.int .u8 0), (.int .u8 0), (.int .u8 0), (.int .u8 0), (.int .u8 0), (.int .u8 0), (.int .u8 0), (.int .u16 1)])),
  ([(.str [51, 56, 59, 50, 58, 49, 59, 49])], (.agg [(.int .u8 0), (.int .u8 0), (.int .u8 0), (.int .u8 0), (.int .u8 0), (.int .u8 0), (.int .u8 0), (.int .u8 0), (.int .u16 1)])),
  ([(.str [52, 56, 59, 51, 56, 59, 49])], (.agg [(.int .u8 0), (.int .u8 0), (.int .u8 0), (.int .u8 0), (.int .u8 0), (.int .u8 0), (.int .u8 0), (.int .u8 0), (.int .u16 1)])),
  ([(.str [51, 56, 58, 50, 58, 49, 58, 50])], (.agg [(.int .u8 0), (.int .u8 0), (.int .u8 0), (.int .u8 0), (.int .u8 0), (.int .u8 0), (.int .u8 0), (.int .u8 0), (.int .u16 0)])),
  ([(.str [51, 56, 59, 53])], (.agg [(.int .u8 0), (.int .u8 0), (.int .u8 0), (.int .u8 0), (.int .u8 0), (.int .u8 0), (.int .u8 0), (.int .u8 0), (.int .u16 0)])),
  ([(.str [49, 59, 50, 59, 50, 50])], (.agg [(.int .u8 0), (.int .u8 0), (.int .u8 0), (.int .u8 0), (.int .u8 0), (.int .u8 0), (.int .u8 0), (.int .u8 0), (.int .u16 0)])),
  ([(.str [51, 56, 58, 53, 58, 50, 53, 54])], (.agg [(.int .u8 0), (.int .u8 0), (.int .u8 0), (.int .u8 0), (.int .u8 0), (.int .u8 0), (.int .u8 0), (.int .u8 0), (.int .u16 0)])),
  ([(.str [51, 56, 59, 55, 59, 49])], (.agg [(.int .u8 0), (.int .u8 0), (.int .u8 0), (.int .u8 0), (.int .u8 0), (.int .u8 0), (.int .u8 0), (.int .u8 0), (.int .u16 1)])),
  ([(.str [57, 55, 59, 49, 48, 48])], (.agg [(.int .u8 1), (.int .u8 15), (.int .u8 0), (.int .u8 0), (.int .u8 1), (.int .u8 8), (.int .u8 0), (.int .u8 0), (.int .u16 0)])),
  ([(.str [52, 59, 50, 49])], (.agg [(.int .u8 0), (.int .u8 0), (.int .u8 0), (.int .u8 0), (.int .u8 0), (.int .u8 0), (.int .u8 0), (.int .u8 0), (.int .u16 256)])),
  ([(.str [50, 49, 59, 52])], (.agg [(.int .u8 0), (.int .u8 0), (.int .u8 0), (.int .u8 0), (.int .u8 0), (.int .u8 0), (.int .u8 0), (.int .u8 0), (.int .u16 8)])),
  ([(.str [49, 59, 51, 49])], (.agg [(.int .u8 1), (.int .u8 1), (.int .u8 0), (.int .u8 0), (.int .u8 0), (.int .u8 0), (.int .u8 0), (.int .u8 0), (.int .u16 1)])),
  ([(.str [49, 59])], (.agg [(.int .u8 0), (.int .u8 0), (.int .u8 0), (.int .u8 0), (.int .u8 0), (.int .u8 0), (.int .u8 0), (.int .u8 0), (.int .u16 0)])),
  ([(.str [52, 58, 51])], (.agg [(.int .u8 0), (.int .u8 0), (.int .u8 0), (.int .u8 0), (.int .u8 0), (.int .u8 0), (.int .u8 0), (.int .u8 0), (.int .u16 0)])),
  ([(.str [49, 58, 49])], (.agg [(.int .u8 0), (.int .u8 0), (.int .u8 0), (.int .u8 0), (.int .u8 0), (.int .u8 0), (.int .u8 0), (.int .u8 0), (.int .u16 0)])),
  ([(.str [51, 56])], (.agg [(.int .u8 0), (.int .u8 0), (.int .u8 0), (.int .u8 0), (.int .u8 0), (.int .u8 0), (.int .u8 0), (.int .u8 0), (.int .u16 0)]))]
noncomputable def E1 : Env := E1At0.know 27 (tabS attab27)
theorem E1_base : ∀ p ∈ attab27, (∃ m, evCall E m 27 p.1 [] = some (.pure p.2)) ∧ (p.2.flat && p.1.all V.flat) = true := by
  unfold attab27
  refine List.forall_mem_cons.2 ⟨⟨⟨1000, atk0⟩, rfl⟩, ?_⟩
  refine List.forall_mem_cons.2 ⟨⟨⟨1000, atk1⟩, rfl⟩, ?_⟩
  refine List.forall_mem_cons.2 ⟨⟨⟨1000, atk2⟩, rfl⟩, ?_⟩
  refine List.forall_mem_cons.2 ⟨⟨⟨1000, atk4⟩, rfl⟩, ?_⟩
  refine List.forall_mem_cons.2 ⟨⟨⟨1000, atk5⟩, rfl⟩, ?_⟩
  refine List.forall_mem_cons.2 ⟨⟨⟨1000, atk6⟩, rfl⟩, ?_⟩
  refine List.forall_mem_cons.2 ⟨⟨⟨1000, atk7⟩, rfl⟩, ?_⟩
  refine List.forall_mem_cons.2 ⟨⟨⟨1000, atk8⟩, rfl⟩, ?_⟩
  refine List.forall_mem_cons.2 ⟨⟨⟨1000, atk10⟩, rfl⟩, ?_⟩
  refine List.forall_mem_cons.2 ⟨⟨⟨1000, atk11⟩, rfl⟩, ?_⟩
  refine List.forall_mem_cons.2 ⟨⟨⟨1000, atk12⟩, rfl⟩, ?_⟩
  refine List.forall_mem_cons.2 ⟨⟨⟨1000, atk14⟩, rfl⟩, ?_⟩
  refine List.forall_mem_cons.2 ⟨⟨⟨1000, atk15⟩, rfl⟩, ?_⟩
  refine List.forall_mem_cons.2 ⟨⟨⟨1000, atk16⟩, rfl⟩, ?_⟩
  refine List.forall_mem_cons.2 ⟨⟨⟨1000, atk17⟩, rfl⟩, ?_⟩
  refine List.forall_mem_cons.2 ⟨⟨⟨1000, atk18⟩, rfl⟩, ?_⟩
  refine List.forall_mem_cons.2 ⟨⟨⟨1000, atk19⟩, rfl⟩, ?_⟩
  refine List.forall_mem_cons.2 ⟨⟨⟨1000, atk20⟩, rfl⟩, ?_⟩
  refine List.forall_mem_cons.2 ⟨⟨⟨1000, atk22⟩, rfl⟩, ?_⟩
  refine List.forall_mem_cons.2 ⟨⟨⟨1000, atk23⟩, rfl⟩, ?_⟩
  refine List.forall_mem_cons.2 ⟨⟨⟨1000, atk24⟩, rfl⟩, ?_⟩
  refine List.forall_mem_cons.2 ⟨⟨⟨1000, atk25⟩, rfl⟩, ?_⟩
  refine List.forall_mem_cons.2 ⟨⟨⟨1000, atk26⟩, rfl⟩, ?_⟩
  refine List.forall_mem_cons.2 ⟨⟨⟨1000, atk27⟩, rfl⟩, ?_⟩
  refine List.forall_mem_cons.2 ⟨⟨⟨1000, atk28⟩, rfl⟩, ?_⟩
  refine List.forall_mem_cons.2 ⟨⟨⟨1000, atk29⟩, rfl⟩, ?_⟩
  exact fun p hp => by cases hp
theorem E1_ok : E1.Ok := E1At0_ok.knowTab2 E_ok rfl rfl attab27 E1_base
end Go.Proofs.YthmmpfaghmoenaaDoor

namespace Go.Proofs.YthmmpfaghmoenaaDoor
open Go Go.Am
theorem works_eval : evCall E1 1000 10 [] [] = some (.pure (.bool true)) := by kernel_rfl
noncomputable def E2 : Env := E1.know 10 fun a => match a with | [] => some (.bool true) | _ => none
theorem E2_ok : E2.Ok := E1_ok.knowEval works_eval rfl
theorem known_eval : evCall E2 1000 9 [] [] = some (.pure (.bool true)) := by kernel_rfl
end Go.Proofs.YthmmpfaghmoenaaDoor

namespace Go.Proofs.YthmmpfaghmoenaaDoor
open Go Go.Am
noncomputable def EW : Env := E.know 10 (tabS [([], .bool true)])
theorem EW_ok : EW.Ok := E_ok.knowTab2 E1_ok rfl rfl [([], .bool true)] (by
  intro p hp
  simp only [List.mem_singleton] at hp
  subst hp
  exact ⟨⟨1000, works_eval⟩, rfl⟩)
noncomputable def EP : Env := { EW with full := fun f => memN f [29, 47, 48, 49, 50, 64, 65, 66, 67, 71, 72] }
theorem EP_ok : EP.Ok := { mixed := EW_ok.mixed, names := EW_ok.names, ext := EW_ok.ext, same := EW_ok.same, made := EW_ok.made, orc := EW_ok.orc }
theorem GP : GFlat EP := by
  intro g cs h
  have h : glob g = some cs := h
  unfold glob at h
  split at h
  · cases h
    intro v hv
    simp only [tabCells, List.mem_map] at hv
    obtain ⟨x, _, rfl⟩ := hv
    rfl
  · cases h
theorem orcP : ∀ g, EP.full g = true → ∀ vs, EP.orc g vs = none := fun g h vs => by
  have hg : g ≠ 10 := fun e => by subst e; cases h
  show (if g = 10 then _ else _) = none
  rw [if_neg hg]
  rfl
abbrev tyC : Ty := .pair (.int .u8) (.pair (.int .u8) (.pair (.int .u8) (.pair (.int .u8) .unit)))
abbrev tyA : Ty := .pair tyC (.pair tyC (.pair (.int .u16) .unit))
abbrev C0 : Type := Int × Int × Int × Int × Unit
abbrev A0 : Type := C0 × C0 × Int × Unit
abbrev tyL : Ty := .list 36 (.list 3 (.int .i64))
def c0 : FuncId → List Ctr := fun _ => []
def m0 : FuncId → List CtrM := fun _ => []
theorem S_ok {ctr : FuncId → List Ctr} {tm : FuncId → Nat → Option Tm} {un : Nat} {hold : List Nat} {ctrM : FuncId → List CtrM} (h : ∀ g ct, ct ∈ ctr g → CtrOk EP g ct) (hm : ∀ g ct, ct ∈ ctrM g → CtrMOk EP g ct) : SOkE { E := EP, ctr := ctr, tm := tm, un := un, hold := hold, ctrM := ctrM } := ⟨GP, h, orcP, hm⟩
theorem c0_ok : ∀ g ct, ct ∈ c0 g → CtrOk EP g ct := fun g ct h => by cases h
theorem m0_ok : ∀ g ct, ct ∈ m0 g → CtrMOk EP g ct := fun g ct h => by cases h
end Go.Proofs.YthmmpfaghmoenaaDoor

namespace Go.Proofs.YthmmpfaghmoenaaDoor
open Go Go.Am
set_option linter.unusedVariables false
def To_pre : Tm := { tmps := [(0, .hole (.int .i64)), (1, .hole (.pair (.int .u8) (.pair (.int .u8) (.pair (.int .u8) (.pair (.int .u8) .unit)))))], objs := [] }
def To_post : Tm := { tmps := [(0, (.func 64 [] [(.ptr 0 0), (.ptr 1 0)]))], objs := [.cells [(.hole (.int .i64))] 3 true, .cells [(.hole (.int .u8)), (.hole (.int .u8)), (.hole (.int .u8)), (.hole (.int .u8))] 29 true] }
def tmTo : FuncId → Nat → Option Tm := fun g i => match Nat.beq g 50 with
  | true => none
  | false => none
noncomputable def STo : SE := { E := Go.Proofs.YthmmpfaghmoenaaDoor.EP, ctr := Go.Proofs.YthmmpfaghmoenaaDoor.c0, tm := tmTo, un := 300, hold := [], ctrM := Go.Proofs.YthmmpfaghmoenaaDoor.m0 }
theorem To_fn (n : Nat) (n0 : Int) (p1 : Int × Int × Int × Int × PUnit) :
    fnM STo loopY To_pre To_post n 50 [⟨(.int .i64), n0⟩, ⟨(.pair (.int .u8) (.pair (.int .u8) (.pair (.int .u8) (.pair (.int .u8) .unit)))), p1⟩] =
    (some [⟨(.int .i64), (n0 : Int)⟩, ⟨(.int .u8), (Prod.fst p1 : Int)⟩, ⟨(.int .u8), (Prod.fst (Prod.snd p1) : Int)⟩, ⟨(.int .u8), (Prod.fst (Prod.snd (Prod.snd p1)) : Int)⟩, ⟨(.int .u8), (Prod.fst (Prod.snd (Prod.snd (Prod.snd p1))) : Int)⟩]) := by kernel_rfl

def Sf_pre : Tm := { tmps := [(0, .hole (.int .u16)), (1, .hole (.list 22 (.int .u16)))], objs := [] }
def Sf_post : Tm := { tmps := [(0, (.func 48 [] [(.ptr 0 0), (.ptr 1 0)]))], objs := [.cells [(.hole (.int .u16))] 22 true, .cells [(.hole (.list 22 (.int .u16)))] 51 true] }
def tmSf : FuncId → Nat → Option Tm := fun g i => match Nat.beq g 47 with
  | true => none
  | false => none
noncomputable def SSf : SE := { E := Go.Proofs.YthmmpfaghmoenaaDoor.EP, ctr := Go.Proofs.YthmmpfaghmoenaaDoor.c0, tm := tmSf, un := 300, hold := [], ctrM := Go.Proofs.YthmmpfaghmoenaaDoor.m0 }
theorem Sf_fn (n : Nat) (n0 : Int) (l1 : List Int) :
    fnM SSf loopY Sf_pre Sf_post n 47 [⟨(.int .u16), n0⟩, ⟨(.list 22 (.int .u16)), l1⟩] =
    (some [⟨(.int .u16), (n0 : Int)⟩, ⟨(.list 22 (.int .u16)), (l1 : List Int)⟩]) := by kernel_rfl

def Fl_T0 : Tm := { tmps := [(11, (.hole (.int .i64))), (10, (.hole (.int .i64))), (9, (.hole (.list 22 (.int .u16)))), (6, (.ptr 1 0)), (3, (.ptr 0 0)), (1, (.hole (.int .u16)))], objs := [.cells [(.hole (.int .u8)), (.hole (.int .u8)), (.hole (.int .u8)), (.hole (.int .u8)), (.hole (.int .u8)), (.hole (.int .u8)), (.hole (.int .u8)), (.hole (.int .u8)), (.hole (.int .u16))] 31 true, .cells [(.hole (.int .u8)), (.hole (.int .u8)), (.hole (.int .u8)), (.hole (.int .u8)), (.hole (.int .u8)), (.hole (.int .u8)), (.hole (.int .u8)), (.hole (.int .u8)), (.hole (.int .u16))] 31 true] }
def tmFl : FuncId → Nat → Option Tm := fun g i => match Nat.beq g 25 with
  | true => match Nat.beq i 0 with | true => some Fl_T0 | false => none
  | false => none
noncomputable def SFl : SE := { E := Go.Proofs.YthmmpfaghmoenaaDoor.EP, ctr := Go.Proofs.YthmmpfaghmoenaaDoor.c0, tm := tmFl, un := 300 }
theorem Fl_L0 (n : Nat) (nx : Nat → List Dy → Option (List Dy)) (m : Nat) (n0 : Int) (n1 : Int) (n2 : Int) (n3 : Int) (n4 : Int) (n5 : Int) (n6 : Int) (n7 : Int) (n8 : Int) (n9 : Int) (n10 : Int) (n11 : Int) (n12 : Int) (n13 : Int) (n14 : Int) (n15 : Int) (n16 : Int) (n17 : Int) (n18 : Int) (n19 : Int) (l20 : List Int) (n21 : Int) :
    RL SFl [(.pair (.pair (.int .u8) (.pair (.int .u8) (.pair (.int .u8) (.pair (.int .u8) .unit)))) (.pair (.pair (.int .u8) (.pair (.int .u8) (.pair (.int .u8) (.pair (.int .u8) .unit)))) (.pair (.int .u16) .unit)))] n 25 0 nx (m + 1) [⟨(.int .u8), n0⟩, ⟨(.int .u8), n1⟩, ⟨(.int .u8), n2⟩, ⟨(.int .u8), n3⟩, ⟨(.int .u8), n4⟩, ⟨(.int .u8), n5⟩, ⟨(.int .u8), n6⟩, ⟨(.int .u8), n7⟩, ⟨(.int .u16), n8⟩, ⟨(.int .u8), n9⟩, ⟨(.int .u8), n10⟩, ⟨(.int .u8), n11⟩, ⟨(.int .u8), n12⟩, ⟨(.int .u8), n13⟩, ⟨(.int .u8), n14⟩, ⟨(.int .u8), n15⟩, ⟨(.int .u8), n16⟩, ⟨(.int .u16), n17⟩, ⟨(.int .i64), n18⟩, ⟨(.int .i64), n19⟩, ⟨(.list 22 (.int .u16)), l20⟩, ⟨(.int .u16), n21⟩] =
    (bif (Decidable.decide (n18 < n19)) then
      need (Decidable.decide ((0 : Int) ≤ n18)) <|
      need (Decidable.decide (n18 < (↑(List.length l20) : Int))) <|
      need (Decidable.decide (Int.toNat n18 < List.length l20)) <|
      RL SFl [(.pair (.pair (.int .u8) (.pair (.int .u8) (.pair (.int .u8) (.pair (.int .u8) .unit)))) (.pair (.pair (.int .u8) (.pair (.int .u8) (.pair (.int .u8) (.pair (.int .u8) .unit)))) (.pair (.int .u16) .unit)))] n 25 0 nx m [⟨(.int .u8), (n0 : Int)⟩, ⟨(.int .u8), (n1 : Int)⟩, ⟨(.int .u8), (n2 : Int)⟩, ⟨(.int .u8), (n3 : Int)⟩, ⟨(.int .u8), (n4 : Int)⟩, ⟨(.int .u8), (n5 : Int)⟩, ⟨(.int .u8), (n6 : Int)⟩, ⟨(.int .u8), (n7 : Int)⟩, ⟨(.int .u16), (Go.IntKind.wrap Go.IntKind.u16 (↑(BitVec.toNat (BitVec.ofInt (16 : Nat) n8 &&& ~~~BitVec.ofInt (16 : Nat) (List.getD l20 (Int.toNat n18) (0 : Int)))) : Int) : Int)⟩, ⟨(.int .u8), (n9 : Int)⟩, ⟨(.int .u8), (n10 : Int)⟩, ⟨(.int .u8), (n11 : Int)⟩, ⟨(.int .u8), (n12 : Int)⟩, ⟨(.int .u8), (n13 : Int)⟩, ⟨(.int .u8), (n14 : Int)⟩, ⟨(.int .u8), (n15 : Int)⟩, ⟨(.int .u8), (n16 : Int)⟩, ⟨(.int .u16), (n17 : Int)⟩, ⟨(.int .i64), (Go.IntKind.wrap Go.IntKind.i64 (n18 + (1 : Int)) : Int)⟩, ⟨(.int .i64), (n19 : Int)⟩, ⟨(.list 22 (.int .u16)), (l20 : List Int)⟩, ⟨(.int .u16), (n21 : Int)⟩]
    else
      some [⟨(.pair (.pair (.int .u8) (.pair (.int .u8) (.pair (.int .u8) (.pair (.int .u8) .unit)))) (.pair (.pair (.int .u8) (.pair (.int .u8) (.pair (.int .u8) (.pair (.int .u8) .unit)))) (.pair (.int .u16) .unit))), (((n0, n1, n2, n3, (PUnit.unit : PUnit.{1})), (n4, n5, n6, n7, (PUnit.unit : PUnit.{1})), Go.IntKind.wrap Go.IntKind.u16 (↑(BitVec.toNat (BitVec.ofInt (16 : Nat) n8 ||| BitVec.ofInt (16 : Nat) n21)) : Int), (PUnit.unit : PUnit.{1})) : (Int × Int × Int × Int × PUnit) × (Int × Int × Int × Int × PUnit) × Int × PUnit)⟩]) := by kernel_rfl
theorem Fl_fn (n : Nat) (p0 : (Int × Int × Int × Int × PUnit) × (Int × Int × Int × Int × PUnit) × Int × PUnit) (n1 : Int) (l2 : List Int) :
    fnY SFl loopY [(.hole (.pair (.pair (.int .u8) (.pair (.int .u8) (.pair (.int .u8) (.pair (.int .u8) .unit)))) (.pair (.pair (.int .u8) (.pair (.int .u8) (.pair (.int .u8) (.pair (.int .u8) .unit)))) (.pair (.int .u16) .unit)))), (.hole (.int .u16)), (.hole (.list 22 (.int .u16)))] [(.pair (.pair (.int .u8) (.pair (.int .u8) (.pair (.int .u8) (.pair (.int .u8) .unit)))) (.pair (.pair (.int .u8) (.pair (.int .u8) (.pair (.int .u8) (.pair (.int .u8) .unit)))) (.pair (.int .u16) .unit)))] n 25 [⟨(.pair (.pair (.int .u8) (.pair (.int .u8) (.pair (.int .u8) (.pair (.int .u8) .unit)))) (.pair (.pair (.int .u8) (.pair (.int .u8) (.pair (.int .u8) (.pair (.int .u8) .unit)))) (.pair (.int .u16) .unit))), p0⟩, ⟨(.int .u16), n1⟩, ⟨(.list 22 (.int .u16)), l2⟩] =
    (RL SFl [(.pair (.pair (.int .u8) (.pair (.int .u8) (.pair (.int .u8) (.pair (.int .u8) .unit)))) (.pair (.pair (.int .u8) (.pair (.int .u8) (.pair (.int .u8) (.pair (.int .u8) .unit)))) (.pair (.int .u16) .unit)))] n 25 0 noNx n [⟨(.int .u8), (Prod.fst (Prod.fst p0) : Int)⟩, ⟨(.int .u8), (Prod.fst (Prod.snd (Prod.fst p0)) : Int)⟩, ⟨(.int .u8), (Prod.fst (Prod.snd (Prod.snd (Prod.fst p0))) : Int)⟩, ⟨(.int .u8), (Prod.fst (Prod.snd (Prod.snd (Prod.snd (Prod.fst p0)))) : Int)⟩, ⟨(.int .u8), (Prod.fst (Prod.fst (Prod.snd p0)) : Int)⟩, ⟨(.int .u8), (Prod.fst (Prod.snd (Prod.fst (Prod.snd p0))) : Int)⟩, ⟨(.int .u8), (Prod.fst (Prod.snd (Prod.snd (Prod.fst (Prod.snd p0)))) : Int)⟩, ⟨(.int .u8), (Prod.fst (Prod.snd (Prod.snd (Prod.snd (Prod.fst (Prod.snd p0))))) : Int)⟩, ⟨(.int .u16), (Prod.fst (Prod.snd (Prod.snd p0)) : Int)⟩, ⟨(.int .u8), ((0 : Int) : Int)⟩, ⟨(.int .u8), ((0 : Int) : Int)⟩, ⟨(.int .u8), ((0 : Int) : Int)⟩, ⟨(.int .u8), ((0 : Int) : Int)⟩, ⟨(.int .u8), ((0 : Int) : Int)⟩, ⟨(.int .u8), ((0 : Int) : Int)⟩, ⟨(.int .u8), ((0 : Int) : Int)⟩, ⟨(.int .u8), ((0 : Int) : Int)⟩, ⟨(.int .u16), ((0 : Int) : Int)⟩, ⟨(.int .i64), ((0 : Int) : Int)⟩, ⟨(.int .i64), ((↑(List.length l2) : Int) : Int)⟩, ⟨(.list 22 (.int .u16)), (l2 : List Int)⟩, ⟨(.int .u16), (n1 : Int)⟩]) := by kernel_rfl

def tmFg : FuncId → Nat → Option Tm := fun g i => match Nat.beq g 38 with
  | true => none
  | false => none
noncomputable def SFg : SE := { E := Go.Proofs.YthmmpfaghmoenaaDoor.EP, ctr := Go.Proofs.YthmmpfaghmoenaaDoor.c0, tm := tmFg, un := 300 }
theorem Fg_fn (n : Nat) :
    fnY SFg loopY [] [(.list 77 (.pair (.int .i64) (.pair (.int .u16) .unit)))] n 38 [] =
    (some [⟨(.list 77 (.pair (.int .i64) (.pair (.int .u16) .unit))), ([((1 : Int), (1 : Int), (PUnit.unit : PUnit.{1})), ((2 : Int), (2 : Int), (PUnit.unit : PUnit.{1})), ((3 : Int), (4 : Int), (PUnit.unit : PUnit.{1})), ((4 : Int), (8 : Int), (PUnit.unit : PUnit.{1})), ((5 : Int), (16 : Int), (PUnit.unit : PUnit.{1})), ((7 : Int), (32 : Int), (PUnit.unit : PUnit.{1})), ((8 : Int), (64 : Int), (PUnit.unit : PUnit.{1})), ((9 : Int), (128 : Int), (PUnit.unit : PUnit.{1})), ((21 : Int), (256 : Int), (PUnit.unit : PUnit.{1}))] : List (Int × Int × PUnit))⟩]) := by kernel_rfl

end Go.Proofs.YthmmpfaghmoenaaDoor

namespace Go.Proofs.YthmmpfaghmoenaaDoor
open Go Go.Am

def cTo : CtrM := { pre := To_pre, res := (ctr2 (.int .i64) tyC [] (fun _ _ => []) fun (n : Int) (c : C0) => [⟨.int .i64, n⟩, ⟨.int .u8, c.1⟩, ⟨.int .u8, c.2.1⟩, ⟨.int .u8, c.2.2.1⟩, ⟨.int .u8, c.2.2.2.1⟩]).res, post := To_post }
theorem cTo_ok : CtrMOk EP 50 cTo := ctrM_ok (S := STo) (S_ok c0_ok m0_ok) rfl rfl rfl rfl fun ds gs ds' hr hg => by
  obtain ⟨n, c, rfl, rfl, rfl⟩ := ctr2_res (out := []) hr
  exact ⟨0, To_fn 0 n c⟩
def cSf : CtrM := { pre := Sf_pre, res := (ctr2 (.int .u16) (.list 22 (.int .u16)) [] (fun _ _ => []) fun (n : Int) (l : List Int) => [⟨.int .u16, n⟩, ⟨.list 22 (.int .u16), l⟩]).res, post := Sf_post }
theorem cSf_ok : CtrMOk EP 47 cSf := ctrM_ok (S := SSf) (S_ok c0_ok m0_ok) rfl rfl rfl rfl fun ds gs ds' hr hg => by
  obtain ⟨n, l, rfl, rfl, rfl⟩ := ctr2_res (out := []) hr
  exact ⟨0, Sf_fn 0 n l⟩
def m1 : FuncId → List CtrM := addM (addM m0 50 cTo) 47 cSf
theorem m1_ok : ∀ g ct, ct ∈ m1 g → CtrMOk EP g ct := addM_ok (addM_ok m0_ok cTo_ok) cSf_ok

def clr1 (f x : Int) : Int := IntKind.u16.wrap (((BitVec.ofInt 16 f &&& ~~~BitVec.ofInt 16 x).toNat : Nat) : Int)
def orF (f x : Int) : Int := IntKind.u16.wrap (((BitVec.ofInt 16 f ||| BitVec.ofInt 16 x).toNat : Nat) : Int)
def clrL (l : List Int) (x : Int) : Int := l.foldl clr1 x
def flF (a : A0) (set : Int) (l : List Int) : A0 := (a.1, a.2.1, orF (clrL l a.2.2.1) set, ())

theorem fl_loop (n : Nat) (nx : Nat → List Dy → Option (List Dy)) (l : List Int) (hl : l.length ≤ 1000000) (set : Int) (c d : C0) (z1 z2 z3 z4 z5 z6 z7 z8 z9 : Int) : ∀ (m i : Nat) (f : Int), i ≤ l.length → l.length < i + m →
    RL SFl [tyA] n 25 0 nx m [⟨.int .u8, c.1⟩, ⟨.int .u8, c.2.1⟩, ⟨.int .u8, c.2.2.1⟩, ⟨.int .u8, c.2.2.2.1⟩, ⟨.int .u8, d.1⟩, ⟨.int .u8, d.2.1⟩, ⟨.int .u8, d.2.2.1⟩, ⟨.int .u8, d.2.2.2.1⟩, ⟨.int .u16, f⟩, ⟨.int .u8, z1⟩, ⟨.int .u8, z2⟩, ⟨.int .u8, z3⟩, ⟨.int .u8, z4⟩, ⟨.int .u8, z5⟩, ⟨.int .u8, z6⟩, ⟨.int .u8, z7⟩, ⟨.int .u8, z8⟩, ⟨.int .u16, z9⟩,
      ⟨.int .i64, (i : Int)⟩, ⟨.int .i64, (l.length : Int)⟩, ⟨.list 22 (.int .u16), l⟩, ⟨.int .u16, set⟩] = some [⟨tyA, ((c, d, orF ((l.drop i).foldl clr1 f) set, ()) : A0)⟩]
  | 0, i, f, h1, h2 => by omega
  | m + 1, i, f, h1, h2 => by
    rw [Fl_L0]
    by_cases hi : i < l.length
    · have e1 : IntKind.i64.wrap ((i : Int) + 1) = ((i + 1 : Nat) : Int) := by rw [w64 (by omega)]; omega
      have e2 : l.drop i = l.getD i 0 :: l.drop (i + 1) := by
        rw [List.drop_eq_getElem_cons hi]
        simp [List.getD_eq_getElem?_getD, hi]
      rw [e1, Int.toNat_natCast, e2]
      refine bpd (by omega) (nd (by omega) (nd (by omega) (nd hi ?_)))
      exact fl_loop n nx l hl set c d z1 z2 z3 z4 z5 z6 z7 z8 z9 m (i + 1) _ (by omega) (by omega)
    · have : l.drop i = [] := List.drop_eq_nil_iff.2 (by omega)
      rw [this]
      exact bnd (by omega) rfl
theorem fl_ok (a : A0) (set : Int) (l : List Int) (hl : l.length ≤ 1000000) : ∃ n, fnY SFl loopY [.hole tyA, .hole (.int .u16), .hole (.list 22 (.int .u16))] [tyA] n 25 [⟨tyA, a⟩, ⟨.int .u16, set⟩, ⟨.list 22 (.int .u16), l⟩] = some [⟨tyA, flF a set l⟩] := by
  refine ⟨l.length + 1, ?_⟩
  rw [Fl_fn]
  exact fl_loop _ _ l hl set a.1 a.2.1 _ _ _ _ _ _ _ _ _ _ 0 _ (by omega) (by omega)
def cFl : Ctr := ctr3 tyA (.int .u16) (.list 22 (.int .u16)) [tyA] (fun _ _ (l : List Int) => [decide (l.length ≤ 1000000)]) fun (a : A0) (s : Int) (l : List Int) => [⟨tyA, flF a s l⟩]
theorem cFl_ok : CtrOk EP 25 cFl := ctr3_ok (S := SFl) (t := tyA) (u := .int .u16) (w := .list 22 (.int .u16)) (S_ok c0_ok m0_ok) (fun _ => rfl) rfl fun (a : A0) (s : Int) (l : List Int) h => by
  simp only [List.all_cons, id, decide_eq_true_eq, List.all_nil, Bool.and_true] at h
  exact fl_ok a s l h
abbrev flagsL : List (Int × Int × Unit) := [(1, 1, ()), (2, 2, ()), (3, 4, ()), (4, 8, ()), (5, 16, ()), (7, 32, ()), (8, 64, ()), (9, 128, ()), (21, 256, ())]
abbrev tyF : Ty := .list 77 (.pair (.int .i64) (.pair (.int .u16) .unit))
def cFg : Ctr := ctr0 [tyF] [⟨tyF, flagsL⟩]
theorem cFg_ok : CtrOk EP 38 cFg := ctr0_ok (S := SFg) (S_ok c0_ok m0_ok) (fun _ => rfl) rfl ⟨0, Fg_fn 0⟩
def c1 : FuncId → List Ctr := addCtr (addCtr c0 25 cFl) 38 cFg
theorem c1_ok : ∀ g ct, ct ∈ c1 g → CtrOk EP g ct := addCtr_ok (addCtr_ok c0_ok cFl_ok) cFg_ok
end Go.Proofs.YthmmpfaghmoenaaDoor

namespace Go.Proofs.YthmmpfaghmoenaaDoor
open Go Go.Am
set_option linter.unusedVariables false
def Sy_pre : Tm := { tmps := [], objs := [] }
def Sy_post : Tm := { tmps := [(0, (.same (.map 0)))], objs := [.same (.mp [((.int .i64 0), (.func 49 [] [])), ((.int .i64 22), (.func 48 [] [(.ptr 2 0), (.ptr 3 0)])), ((.int .i64 39), (.func 64 [] [(.ptr 4 0), (.ptr 5 0)])), ((.int .i64 49), (.func 64 [] [(.ptr 6 0), (.ptr 7 0)])), ((.int .i64 1), (.func 48 [] [(.ptr 9 0), (.ptr 10 0)])), ((.int .i64 2), (.func 48 [] [(.ptr 12 0), (.ptr 13 0)])), ((.int .i64 3), (.func 48 [] [(.ptr 15 0), (.ptr 16 0)])), ((.int .i64 23), (.func 48 [] [(.ptr 18 0), (.ptr 19 0)])), ((.int .i64 4), (.func 48 [] [(.ptr 54 0), (.ptr 55 0)])), ((.int .i64 24), (.func 48 [] [(.ptr 60 0), (.ptr 61 0)])), ((.int .i64 5), (.func 48 [] [(.ptr 27 0), (.ptr 28 0)])), ((.int .i64 25), (.func 48 [] [(.ptr 30 0), (.ptr 31 0)])), ((.int .i64 7), (.func 48 [] [(.ptr 33 0), (.ptr 34 0)])), ((.int .i64 27), (.func 48 [] [(.ptr 36 0), (.ptr 37 0)])), ((.int .i64 8), (.func 48 [] [(.ptr 39 0), (.ptr 40 0)])), ((.int .i64 28), (.func 48 [] [(.ptr 42 0), (.ptr 43 0)])), ((.int .i64 9), (.func 48 [] [(.ptr 45 0), (.ptr 46 0)])), ((.int .i64 29), (.func 48 [] [(.ptr 48 0), (.ptr 49 0)])), ((.int .i64 21), (.func 48 [] [(.ptr 57 0), (.ptr 58 0)])), ((.int .i64 30), (.func 64 [] [(.ptr 64 0), (.ptr 65 0)])), ((.int .i64 90), (.func 64 [] [(.ptr 66 0), (.ptr 67 0)])), ((.int .i64 40), (.func 64 [] [(.ptr 68 0), (.ptr 69 0)])), ((.int .i64 100), (.func 64 [] [(.ptr 70 0), (.ptr 71 0)])), ((.int .i64 31), (.func 64 [] [(.ptr 74 0), (.ptr 75 0)])), ((.int .i64 91), (.func 64 [] [(.ptr 76 0), (.ptr 77 0)])), ((.int .i64 41), (.func 64 [] [(.ptr 78 0), (.ptr 79 0)])), ((.int .i64 101), (.func 64 [] [(.ptr 80 0), (.ptr 81 0)])), ((.int .i64 32), (.func 64 [] [(.ptr 84 0), (.ptr 85 0)])), ((.int .i64 92), (.func 64 [] [(.ptr 86 0), (.ptr 87 0)])), ((.int .i64 42), (.func 64 [] [(.ptr 88 0), (.ptr 89 0)])), ((.int .i64 102), (.func 64 [] [(.ptr 90 0), (.ptr 91 0)])), ((.int .i64 33), (.func 64 [] [(.ptr 94 0), (.ptr 95 0)])), ((.int .i64 93), (.func 64 [] [(.ptr 96 0), (.ptr 97 0)])), ((.int .i64 43), (.func 64 [] [(.ptr 98 0), (.ptr 99 0)])), ((.int .i64 103), (.func 64 [] [(.ptr 100 0), (.ptr 101 0)])), ((.int .i64 34), (.func 64 [] [(.ptr 104 0), (.ptr 105 0)])), ((.int .i64 94), (.func 64 [] [(.ptr 106 0), (.ptr 107 0)])), ((.int .i64 44), (.func 64 [] [(.ptr 108 0), (.ptr 109 0)])), ((.int .i64 104), (.func 64 [] [(.ptr 110 0), (.ptr 111 0)])), ((.int .i64 35), (.func 64 [] [(.ptr 114 0), (.ptr 115 0)])), ((.int .i64 95), (.func 64 [] [(.ptr 116 0), (.ptr 117 0)])), ((.int .i64 45), (.func 64 [] [(.ptr 118 0), (.ptr 119 0)])), ((.int .i64 105), (.func 64 [] [(.ptr 120 0), (.ptr 121 0)])), ((.int .i64 36), (.func 64 [] [(.ptr 124 0), (.ptr 125 0)])), ((.int .i64 96), (.func 64 [] [(.ptr 126 0), (.ptr 127 0)])), ((.int .i64 46), (.func 64 [] [(.ptr 128 0), (.ptr 129 0)])), ((.int .i64 106), (.func 64 [] [(.ptr 130 0), (.ptr 131 0)])), ((.int .i64 37), (.func 64 [] [(.ptr 134 0), (.ptr 135 0)])), ((.int .i64 97), (.func 64 [] [(.ptr 136 0), (.ptr 137 0)])), ((.int .i64 47), (.func 64 [] [(.ptr 138 0), (.ptr 139 0)])), ((.int .i64 107), (.func 64 [] [(.ptr 140 0), (.ptr 141 0)]))]), .dead, .same (.cells [(.v (.int .u16 0))] 22 true), .cells [(.hole (.list 22 (.int .u16)))] 51 true, .same (.cells [(.v (.int .i64 38))] 3 true), .same (.cells [(.v (.int .u8 0)), (.v (.int .u8 0)), (.v (.int .u8 0)), (.v (.int .u8 0))] 29 true), .same (.cells [(.v (.int .i64 48))] 3 true), .same (.cells [(.v (.int .u8 0)), (.v (.int .u8 0)), (.v (.int .u8 0)), (.v (.int .u8 0))] 29 true), .dead, .same (.cells [(.v (.int .u16 1))] 22 true), .cells [(.hole (.list 22 (.int .u16)))] 51 true, .dead, .same (.cells [(.v (.int .u16 2))] 22 true), .cells [(.hole (.list 22 (.int .u16)))] 51 true, .dead, .same (.cells [(.v (.int .u16 4))] 22 true), .cells [(.hole (.list 22 (.int .u16)))] 51 true, .dead, .same (.cells [(.v (.int .u16 0))] 22 true), .cells [(.hole (.list 22 (.int .u16)))] 51 true, .dead, .dead, .dead, .dead, .dead, .dead, .dead, .same (.cells [(.v (.int .u16 16))] 22 true), .cells [(.hole (.list 22 (.int .u16)))] 51 true, .dead, .same (.cells [(.v (.int .u16 0))] 22 true), .cells [(.hole (.list 22 (.int .u16)))] 51 true, .dead, .same (.cells [(.v (.int .u16 32))] 22 true), .cells [(.hole (.list 22 (.int .u16)))] 51 true, .dead, .same (.cells [(.v (.int .u16 0))] 22 true), .cells [(.hole (.list 22 (.int .u16)))] 51 true, .dead, .same (.cells [(.v (.int .u16 64))] 22 true), .cells [(.hole (.list 22 (.int .u16)))] 51 true, .dead, .same (.cells [(.v (.int .u16 0))] 22 true), .cells [(.hole (.list 22 (.int .u16)))] 51 true, .dead, .same (.cells [(.v (.int .u16 128))] 22 true), .cells [(.hole (.list 22 (.int .u16)))] 51 true, .dead, .same (.cells [(.v (.int .u16 0))] 22 true), .cells [(.hole (.list 22 (.int .u16)))] 51 true, .dead, .dead, .dead, .dead, .same (.cells [(.v (.int .u16 8))] 22 true), .cells [(.hole (.list 22 (.int .u16)))] 51 true, .dead, .same (.cells [(.v (.int .u16 256))] 22 true), .cells [(.hole (.list 22 (.int .u16)))] 51 true, .dead, .same (.cells [(.v (.int .u16 0))] 22 true), .cells [(.hole (.list 22 (.int .u16)))] 51 true, .dead, .dead, .same (.cells [(.v (.int .i64 38))] 3 true), .same (.cells [(.v (.int .u8 1)), (.v (.int .u8 0)), (.v (.int .u8 0)), (.v (.int .u8 0))] 29 true), .same (.cells [(.v (.int .i64 38))] 3 true), .same (.cells [(.v (.int .u8 1)), (.v (.int .u8 8)), (.v (.int .u8 0)), (.v (.int .u8 0))] 29 true), .same (.cells [(.v (.int .i64 48))] 3 true), .same (.cells [(.v (.int .u8 1)), (.v (.int .u8 0)), (.v (.int .u8 0)), (.v (.int .u8 0))] 29 true), .same (.cells [(.v (.int .i64 48))] 3 true), .same (.cells [(.v (.int .u8 1)), (.v (.int .u8 8)), (.v (.int .u8 0)), (.v (.int .u8 0))] 29 true), .dead, .dead, .same (.cells [(.v (.int .i64 38))] 3 true), .same (.cells [(.v (.int .u8 1)), (.v (.int .u8 1)), (.v (.int .u8 0)), (.v (.int .u8 0))] 29 true), .same (.cells [(.v (.int .i64 38))] 3 true), .same (.cells [(.v (.int .u8 1)), (.v (.int .u8 9)), (.v (.int .u8 0)), (.v (.int .u8 0))] 29 true), .same (.cells [(.v (.int .i64 48))] 3 true), .same (.cells [(.v (.int .u8 1)), (.v (.int .u8 1)), (.v (.int .u8 0)), (.v (.int .u8 0))] 29 true), .same (.cells [(.v (.int .i64 48))] 3 true), .same (.cells [(.v (.int .u8 1)), (.v (.int .u8 9)), (.v (.int .u8 0)), (.v (.int .u8 0))] 29 true), .dead, .dead, .same (.cells [(.v (.int .i64 38))] 3 true), .same (.cells [(.v (.int .u8 1)), (.v (.int .u8 2)), (.v (.int .u8 0)), (.v (.int .u8 0))] 29 true), .same (.cells [(.v (.int .i64 38))] 3 true), .same (.cells [(.v (.int .u8 1)), (.v (.int .u8 10)), (.v (.int .u8 0)), (.v (.int .u8 0))] 29 true), .same (.cells [(.v (.int .i64 48))] 3 true), .same (.cells [(.v (.int .u8 1)), (.v (.int .u8 2)), (.v (.int .u8 0)), (.v (.int .u8 0))] 29 true), .same (.cells [(.v (.int .i64 48))] 3 true), .same (.cells [(.v (.int .u8 1)), (.v (.int .u8 10)), (.v (.int .u8 0)), (.v (.int .u8 0))] 29 true), .dead, .dead, .same (.cells [(.v (.int .i64 38))] 3 true), .same (.cells [(.v (.int .u8 1)), (.v (.int .u8 3)), (.v (.int .u8 0)), (.v (.int .u8 0))] 29 true), .same (.cells [(.v (.int .i64 38))] 3 true), .same (.cells [(.v (.int .u8 1)), (.v (.int .u8 11)), (.v (.int .u8 0)), (.v (.int .u8 0))] 29 true), .same (.cells [(.v (.int .i64 48))] 3 true), .same (.cells [(.v (.int .u8 1)), (.v (.int .u8 3)), (.v (.int .u8 0)), (.v (.int .u8 0))] 29 true), .same (.cells [(.v (.int .i64 48))] 3 true), .same (.cells [(.v (.int .u8 1)), (.v (.int .u8 11)), (.v (.int .u8 0)), (.v (.int .u8 0))] 29 true), .dead, .dead, .same (.cells [(.v (.int .i64 38))] 3 true), .same (.cells [(.v (.int .u8 1)), (.v (.int .u8 4)), (.v (.int .u8 0)), (.v (.int .u8 0))] 29 true), .same (.cells [(.v (.int .i64 38))] 3 true), .same (.cells [(.v (.int .u8 1)), (.v (.int .u8 12)), (.v (.int .u8 0)), (.v (.int .u8 0))] 29 true), .same (.cells [(.v (.int .i64 48))] 3 true), .same (.cells [(.v (.int .u8 1)), (.v (.int .u8 4)), (.v (.int .u8 0)), (.v (.int .u8 0))] 29 true), .same (.cells [(.v (.int .i64 48))] 3 true), .same (.cells [(.v (.int .u8 1)), (.v (.int .u8 12)), (.v (.int .u8 0)), (.v (.int .u8 0))] 29 true), .dead, .dead, .same (.cells [(.v (.int .i64 38))] 3 true), .same (.cells [(.v (.int .u8 1)), (.v (.int .u8 5)), (.v (.int .u8 0)), (.v (.int .u8 0))] 29 true), .same (.cells [(.v (.int .i64 38))] 3 true), .same (.cells [(.v (.int .u8 1)), (.v (.int .u8 13)), (.v (.int .u8 0)), (.v (.int .u8 0))] 29 true), .same (.cells [(.v (.int .i64 48))] 3 true), .same (.cells [(.v (.int .u8 1)), (.v (.int .u8 5)), (.v (.int .u8 0)), (.v (.int .u8 0))] 29 true), .same (.cells [(.v (.int .i64 48))] 3 true), .same (.cells [(.v (.int .u8 1)), (.v (.int .u8 13)), (.v (.int .u8 0)), (.v (.int .u8 0))] 29 true), .dead, .dead, .same (.cells [(.v (.int .i64 38))] 3 true), .same (.cells [(.v (.int .u8 1)), (.v (.int .u8 6)), (.v (.int .u8 0)), (.v (.int .u8 0))] 29 true), .same (.cells [(.v (.int .i64 38))] 3 true), .same (.cells [(.v (.int .u8 1)), (.v (.int .u8 14)), (.v (.int .u8 0)), (.v (.int .u8 0))] 29 true), .same (.cells [(.v (.int .i64 48))] 3 true), .same (.cells [(.v (.int .u8 1)), (.v (.int .u8 6)), (.v (.int .u8 0)), (.v (.int .u8 0))] 29 true), .same (.cells [(.v (.int .i64 48))] 3 true), .same (.cells [(.v (.int .u8 1)), (.v (.int .u8 14)), (.v (.int .u8 0)), (.v (.int .u8 0))] 29 true), .dead, .dead, .same (.cells [(.v (.int .i64 38))] 3 true), .same (.cells [(.v (.int .u8 1)), (.v (.int .u8 7)), (.v (.int .u8 0)), (.v (.int .u8 0))] 29 true), .same (.cells [(.v (.int .i64 38))] 3 true), .same (.cells [(.v (.int .u8 1)), (.v (.int .u8 15)), (.v (.int .u8 0)), (.v (.int .u8 0))] 29 true), .same (.cells [(.v (.int .i64 48))] 3 true), .same (.cells [(.v (.int .u8 1)), (.v (.int .u8 7)), (.v (.int .u8 0)), (.v (.int .u8 0))] 29 true), .same (.cells [(.v (.int .i64 48))] 3 true), .same (.cells [(.v (.int .u8 1)), (.v (.int .u8 15)), (.v (.int .u8 0)), (.v (.int .u8 0))] 29 true)] }
def tmSy : FuncId → Nat → Option Tm := fun g i => match Nat.beq g 29 with
  | true => none
  | false => none
noncomputable def SSy : SE := { E := Go.Proofs.YthmmpfaghmoenaaDoor.EP, ctr := Go.Proofs.YthmmpfaghmoenaaDoor.c1, tm := tmSy, un := 300, hold := [], ctrM := Go.Proofs.YthmmpfaghmoenaaDoor.m1 }
theorem Sy_fn (n : Nat) :
    fnM SSy loopY Sy_pre Sy_post n 29 [] =
    (some [⟨(.list 22 (.int .u16)), ([(1 : Int), (2 : Int)] : List Int)⟩, ⟨(.list 22 (.int .u16)), ([] : List Int)⟩, ⟨(.list 22 (.int .u16)), ([] : List Int)⟩, ⟨(.list 22 (.int .u16)), ([] : List Int)⟩, ⟨(.list 22 (.int .u16)), ([(4 : Int)] : List Int)⟩, ⟨(.list 22 (.int .u16)), ([] : List Int)⟩, ⟨(.list 22 (.int .u16)), ([(16 : Int)] : List Int)⟩, ⟨(.list 22 (.int .u16)), ([] : List Int)⟩, ⟨(.list 22 (.int .u16)), ([(32 : Int)] : List Int)⟩, ⟨(.list 22 (.int .u16)), ([] : List Int)⟩, ⟨(.list 22 (.int .u16)), ([(64 : Int)] : List Int)⟩, ⟨(.list 22 (.int .u16)), ([] : List Int)⟩, ⟨(.list 22 (.int .u16)), ([(128 : Int)] : List Int)⟩, ⟨(.list 22 (.int .u16)), ([(264 : Int)] : List Int)⟩, ⟨(.list 22 (.int .u16)), ([(264 : Int)] : List Int)⟩, ⟨(.list 22 (.int .u16)), ([(264 : Int)] : List Int)⟩]) := by kernel_rfl

end Go.Proofs.YthmmpfaghmoenaaDoor

namespace Go.Proofs.YthmmpfaghmoenaaDoor
open Go Go.Am
set_option linter.unusedVariables false
def tmPt : FuncId → Nat → Option Tm := fun g i => match Nat.beq g 52 with
  | true => none
  | false => none
noncomputable def SPt : SE := { E := Go.Proofs.YthmmpfaghmoenaaDoor.EP, ctr := Go.Proofs.YthmmpfaghmoenaaDoor.c1, tm := tmPt, un := 300, ctrM := Go.Proofs.YthmmpfaghmoenaaDoor.m1 }
theorem Pt_fn (n : Nat) (n0 : Int) :
    fnY SPt loopY [(.hole (.int .i64))] [(.int .u8), .bool] n 52 [⟨(.int .i64), n0⟩] =
    (some [⟨(.int .u8), (Go.IntKind.wrap Go.IntKind.u8 (if n0 < if Go.IntKind.wrap Go.IntKind.i64 (n0 + (1 : Int)) < (0 : Int) then Go.IntKind.wrap Go.IntKind.i64 (n0 + (1 : Int)) else (0 : Int) then if Go.IntKind.wrap Go.IntKind.i64 (n0 + (1 : Int)) < (0 : Int) then Go.IntKind.wrap Go.IntKind.i64 (n0 + (1 : Int)) else (0 : Int) else n0) : Int)⟩, ⟨.bool, (Decidable.decide ((0 : Int) ≤ if n0 < if Go.IntKind.wrap Go.IntKind.i64 (n0 + (1 : Int)) < (0 : Int) then Go.IntKind.wrap Go.IntKind.i64 (n0 + (1 : Int)) else (0 : Int) then if Go.IntKind.wrap Go.IntKind.i64 (n0 + (1 : Int)) < (0 : Int) then Go.IntKind.wrap Go.IntKind.i64 (n0 + (1 : Int)) else (0 : Int) else n0) && Decidable.decide ((if n0 < if Go.IntKind.wrap Go.IntKind.i64 (n0 + (1 : Int)) < (0 : Int) then Go.IntKind.wrap Go.IntKind.i64 (n0 + (1 : Int)) else (0 : Int) then if Go.IntKind.wrap Go.IntKind.i64 (n0 + (1 : Int)) < (0 : Int) then Go.IntKind.wrap Go.IntKind.i64 (n0 + (1 : Int)) else (0 : Int) else n0) ≤ (255 : Int)) : Bool)⟩]) := by kernel_rfl

def tmCl : FuncId → Nat → Option Tm := fun g i => match Nat.beq g 53 with
  | true => none
  | false => none
noncomputable def SCl : SE := { E := Go.Proofs.YthmmpfaghmoenaaDoor.EP, ctr := Go.Proofs.YthmmpfaghmoenaaDoor.c1, tm := tmCl, un := 300, ctrM := Go.Proofs.YthmmpfaghmoenaaDoor.m1 }
theorem Cl_fn (n : Nat) (n0 : Int) (l1 : List UInt8) :
    fnY SCl loopY [(.hole (.int .i64)), (.hole (.list 5 .byte))] [(.pair (.int .u8) (.pair (.int .u8) (.pair (.int .u8) (.pair (.int .u8) .unit)))), .bool] n 53 [⟨(.int .i64), n0⟩, ⟨(.list 5 .byte), l1⟩] =
    (bif (n0 == (5 : Int) && (↑(List.length l1) : Int) == (1 : Int)) then
      need (Decidable.decide ((0 : Int) < (↑(List.length l1) : Int))) <|
      need (Decidable.decide ((0 : Nat) < List.length l1)) <|
      some [⟨(.pair (.int .u8) (.pair (.int .u8) (.pair (.int .u8) (.pair (.int .u8) .unit)))), (((1 : Int), (↑(UInt8.toNat (List.getD l1 (0 : Nat) (UInt8.ofNat (0 : Nat)))) : Int), (0 : Int), (0 : Int), (PUnit.unit : PUnit.{1})) : Int × Int × Int × Int × PUnit)⟩, ⟨.bool, (Bool.true : Bool)⟩]
    else
      bif (n0 == (2 : Int) && (↑(List.length l1) : Int) == (3 : Int)) then
        need (Decidable.decide ((0 : Int) < (↑(List.length l1) : Int))) <|
        need (Decidable.decide ((0 : Nat) < List.length l1)) <|
        need (Decidable.decide ((1 : Int) < (↑(List.length l1) : Int))) <|
        need (Decidable.decide ((1 : Nat) < List.length l1)) <|
        need (Decidable.decide ((2 : Int) < (↑(List.length l1) : Int))) <|
        need (Decidable.decide ((2 : Nat) < List.length l1)) <|
        some [⟨(.pair (.int .u8) (.pair (.int .u8) (.pair (.int .u8) (.pair (.int .u8) .unit)))), (((2 : Int), (↑(UInt8.toNat (List.getD l1 (0 : Nat) (UInt8.ofNat (0 : Nat)))) : Int), (↑(UInt8.toNat (List.getD l1 (1 : Nat) (UInt8.ofNat (0 : Nat)))) : Int), (↑(UInt8.toNat (List.getD l1 (2 : Nat) (UInt8.ofNat (0 : Nat)))) : Int), (PUnit.unit : PUnit.{1})) : Int × Int × Int × Int × PUnit)⟩, ⟨.bool, (Bool.true : Bool)⟩]
      else
        some [⟨(.pair (.int .u8) (.pair (.int .u8) (.pair (.int .u8) (.pair (.int .u8) .unit)))), (((0 : Int), (0 : Int), (0 : Int), (0 : Int), (PUnit.unit : PUnit.{1})) : Int × Int × Int × Int × PUnit)⟩, ⟨.bool, (Bool.false : Bool)⟩]) := by kernel_rfl

end Go.Proofs.YthmmpfaghmoenaaDoor

namespace Go.Proofs.YthmmpfaghmoenaaDoor
open Go Go.Am

def cSy : CtrM := { pre := Sy_pre, res := (ctr0 [] [⟨.list 22 (.int .u16), ([1, 2] : List Int)⟩, ⟨.list 22 (.int .u16), ([] : List Int)⟩, ⟨.list 22 (.int .u16), ([] : List Int)⟩, ⟨.list 22 (.int .u16), ([] : List Int)⟩, ⟨.list 22 (.int .u16), ([4] : List Int)⟩, ⟨.list 22 (.int .u16), ([] : List Int)⟩, ⟨.list 22 (.int .u16), ([16] : List Int)⟩, ⟨.list 22 (.int .u16), ([] : List Int)⟩, ⟨.list 22 (.int .u16), ([32] : List Int)⟩, ⟨.list 22 (.int .u16), ([] : List Int)⟩, ⟨.list 22 (.int .u16), ([64] : List Int)⟩, ⟨.list 22 (.int .u16), ([] : List Int)⟩, ⟨.list 22 (.int .u16), ([128] : List Int)⟩, ⟨.list 22 (.int .u16), ([264] : List Int)⟩, ⟨.list 22 (.int .u16), ([264] : List Int)⟩, ⟨.list 22 (.int .u16), ([264] : List Int)⟩]).res, post := Sy_post }
theorem cSy_ok : CtrMOk EP 29 cSy := ctrM_ok (S := SSy) (S_ok c1_ok m1_ok) rfl rfl rfl rfl fun ds gs ds' hr hg => by
  obtain ⟨rfl, rfl, rfl⟩ := ctr0_res (out := []) hr
  exact ⟨0, Sy_fn 0⟩
def m2 : FuncId → List CtrM := addM m1 29 cSy
theorem m2_ok : ∀ g ct, ct ∈ m2 g → CtrMOk EP g ct := addM_ok m1_ok cSy_ok

def mF (n : Int) : Int := if 0 ≤ n then n else n + 1
def ptOk (n : Int) : Bool := decide (0 ≤ mF n) && decide (mF n ≤ 255)
def ptV (n : Int) : Int := IntKind.u8.wrap (mF n)
def i64B (n : Int) : Bool := decide (-9223372036854775808 ≤ n) && decide (n ≤ 9223372036854775807)
theorem mF_eq {n : Int} (h : -9223372036854775808 ≤ n ∧ n ≤ 9223372036854775807) : (if n < if IntKind.i64.wrap (n + 1) < 0 then IntKind.i64.wrap (n + 1) else 0 then if IntKind.i64.wrap (n + 1) < 0 then IntKind.i64.wrap (n + 1) else 0 else n) = mF n := by
  unfold mF
  by_cases e : n = 9223372036854775807
  · subst e
    have : IntKind.i64.wrap (9223372036854775807 + 1) = -9223372036854775808 := by kernel_rfl
    rw [this]; rfl
  · rw [w64 (by omega)]
    repeat' split
    all_goals omega
theorem pt_ok (n : Int) (h : i64B n = true) : ∃ k, fnY SPt loopY [.hole (.int .i64)] [.int .u8, .bool] k 52 [⟨.int .i64, n⟩] = some [⟨.int .u8, ptV n⟩, ⟨.bool, ptOk n⟩] := by
  unfold i64B at h
  simp only [Bool.and_eq_true, decide_eq_true_eq] at h
  refine ⟨0, ?_⟩
  rw [Pt_fn, mF_eq h]
  rfl
def cPt : Ctr := ctr1 (.int .i64) [.int .u8, .bool] (fun n => [i64B n]) fun n => [⟨.int .u8, ptV n⟩, ⟨.bool, ptOk n⟩]
theorem cPt_ok : CtrOk EP 52 cPt := ctr1_ok (S := SPt) (t := .int .i64) (S_ok c1_ok m1_ok) (fun _ => rfl) rfl fun n h => by
  simp only [List.all_cons, id, List.all_nil, Bool.and_true] at h
  exact pt_ok n h

def clF (k : Int) (p : List UInt8) : C0 × Bool :=
  if k = 5 ∧ p.length = 1 then ((1, ((p.getD 0 0).toNat : Int), 0, 0, ()), true)
  else if k = 2 ∧ p.length = 3 then ((2, ((p.getD 0 0).toNat : Int), ((p.getD 1 0).toNat : Int), ((p.getD 2 0).toNat : Int), ()), true)
  else ((0, 0, 0, 0, ()), false)
theorem cl_ok (k : Int) (p : List UInt8) : ∃ n, fnY SCl loopY [.hole (.int .i64), .hole (.list 5 .byte)] [tyC, .bool] n 53 [⟨.int .i64, k⟩, ⟨.list 5 .byte, p⟩] = some [⟨tyC, (clF k p).1⟩, ⟨.bool, (clF k p).2⟩] := by
  refine ⟨0, ?_⟩
  rw [Cl_fn]
  unfold clF
  by_cases h1 : k = 5 ∧ p.length = 1
  · rw [if_pos h1]
    exact bp (by simp [h1.1, h1.2]) (nd (by omega) (nd (by omega) rfl))
  rw [if_neg h1]
  refine bn (by simp; omega) ?_
  by_cases h2 : k = 2 ∧ p.length = 3
  · rw [if_pos h2]
    exact bp (by simp [h2.1, h2.2]) (nd (by omega) (nd (by omega) (nd (by omega) (nd (by omega) (nd (by omega) (nd (by omega) rfl))))))
  rw [if_neg h2]
  exact bn (by simp; omega) rfl
def cCl : Ctr := ctr2 (.int .i64) (.list 5 .byte) [tyC, .bool] (fun _ _ => []) fun (k : Int) (p : List UInt8) => [⟨tyC, (clF k p).1⟩, ⟨.bool, (clF k p).2⟩]
theorem cCl_ok : CtrOk EP 53 cCl := ctr2_ok (S := SCl) (t := .int .i64) (u := .list 5 .byte) (S_ok c1_ok m1_ok) (fun _ => rfl) rfl fun (k : Int) (p : List UInt8) _ => cl_ok k p
def c2 : FuncId → List Ctr := addCtr (addCtr c1 52 cPt) 53 cCl
theorem c2_ok : ∀ g ct, ct ∈ c2 g → CtrOk EP g ct := addCtr_ok (addCtr_ok c1_ok cPt_ok) cCl_ok
end Go.Proofs.YthmmpfaghmoenaaDoor

namespace Go.Proofs.YthmmpfaghmoenaaDoor
open Go Go.Am
set_option linter.unusedVariables false
def Rd_T0 : Tm := { tmps := [(12, (.hole (.int .i64))), (11, (.hole (.int .i64))), (10, (.hole (.list 3 (.int .i64)))), (4, .h 0), (1, (.func 52 [] []))], objs := [.lst 5 .byte true], prep := [(4, 5)] }
def tmRd : FuncId → Nat → Option Tm := fun g i => match Nat.beq g 51 with
  | true => match Nat.beq i 0 with | true => some Rd_T0 | false => none
  | false => none
noncomputable def SRd : SE := { E := Go.Proofs.YthmmpfaghmoenaaDoor.EP, ctr := Go.Proofs.YthmmpfaghmoenaaDoor.c2, tm := tmRd, un := 300, ctrM := Go.Proofs.YthmmpfaghmoenaaDoor.m2 }
theorem Rd_L0 (n : Nat) (nx : Nat → List Dy → Option (List Dy)) (m : Nat) (l0 : List UInt8) (n1 : Int) (n2 : Int) (l3 : List Int) :
    RL SRd [(.list 5 .byte), .bool] n 51 0 nx (m + 1) [⟨(.list 5 .byte), l0⟩, ⟨(.int .i64), n1⟩, ⟨(.int .i64), n2⟩, ⟨(.list 3 (.int .i64)), l3⟩] =
    (bif (Decidable.decide (n1 < n2)) then
      need (Decidable.decide ((0 : Int) ≤ n1)) <|
      need (Decidable.decide (n1 < (↑(List.length l3) : Int))) <|
      need (Decidable.decide (Int.toNat n1 < List.length l3)) <|
      need (Go.Proofs.YthmmpfaghmoenaaDoor.i64B (List.getD l3 (Int.toNat n1) (0 : Int))) <|
      bif (!Go.Proofs.YthmmpfaghmoenaaDoor.ptOk (List.getD l3 (Int.toNat n1) (0 : Int))) then
        some [⟨(.list 5 .byte), ([] : List UInt8)⟩, ⟨.bool, (Bool.false : Bool)⟩]
      else
        need (Decidable.decide ((0 : Int) ≤ Go.Proofs.YthmmpfaghmoenaaDoor.ptV (List.getD l3 (Int.toNat n1) (0 : Int)))) <|
        need (Decidable.decide (Go.Proofs.YthmmpfaghmoenaaDoor.ptV (List.getD l3 (Int.toNat n1) (0 : Int)) < (256 : Int))) <|
        need (Decidable.decide ((List.length l0 + List.length [UInt8.ofNat (Int.toNat (Go.Proofs.YthmmpfaghmoenaaDoor.ptV (List.getD l3 (Int.toNat n1) (0 : Int))))]) * (1 : Nat) ≤ (140737488355328 : Nat))) <|
        need (Decidable.decide (List.length l0 + List.length [UInt8.ofNat (Int.toNat (Go.Proofs.YthmmpfaghmoenaaDoor.ptV (List.getD l3 (Int.toNat n1) (0 : Int))))] ≤ (140737488355328 : Nat))) <|
        RL SRd [(.list 5 .byte), .bool] n 51 0 nx m [⟨(.list 5 .byte), (l0 ++ [UInt8.ofNat (Int.toNat (Go.Proofs.YthmmpfaghmoenaaDoor.ptV (List.getD l3 (Int.toNat n1) (0 : Int))))] : List UInt8)⟩, ⟨(.int .i64), (Go.IntKind.wrap Go.IntKind.i64 (n1 + (1 : Int)) : Int)⟩, ⟨(.int .i64), (n2 : Int)⟩, ⟨(.list 3 (.int .i64)), (l3 : List Int)⟩]
    else
      some [⟨(.list 5 .byte), (l0 : List UInt8)⟩, ⟨.bool, (Bool.true : Bool)⟩]) := by kernel_rfl
theorem Rd_fn (n : Nat) (l0 : List Int) :
    fnY SRd loopY [(.hole (.list 3 (.int .i64))), (.func 52 [] [])] [(.list 5 .byte), .bool] n 51 [⟨(.list 3 (.int .i64)), l0⟩] =
    (RL SRd [(.list 5 .byte), .bool] n 51 0 noNx n [⟨(.list 5 .byte), ([] : List UInt8)⟩, ⟨(.int .i64), ((0 : Int) : Int)⟩, ⟨(.int .i64), ((↑(List.length l0) : Int) : Int)⟩, ⟨(.list 3 (.int .i64)), (l0 : List Int)⟩]) := by kernel_rfl

def tmB1 : FuncId → Nat → Option Tm := fun g i => match Nat.beq g 55 with
  | true => none
  | false => none
noncomputable def SB1 : SE := { E := Go.Proofs.YthmmpfaghmoenaaDoor.EP, ctr := Go.Proofs.YthmmpfaghmoenaaDoor.c2, tm := tmB1, un := 300, ctrM := Go.Proofs.YthmmpfaghmoenaaDoor.m2 }
theorem B1_fn (n : Nat) (l0 : List Int) :
    fnY SB1 loopY [(.hole (.list 3 (.int .i64)))] [(.int .u8), .bool] n 55 [⟨(.list 3 (.int .i64)), l0⟩] =
    (bif ((↑(List.length l0) : Int) != (1 : Int)) then
      some [⟨(.int .u8), ((0 : Int) : Int)⟩, ⟨.bool, (Bool.false : Bool)⟩]
    else
      need (Decidable.decide ((0 : Int) < (↑(List.length l0) : Int))) <|
      need (Decidable.decide ((0 : Nat) < List.length l0)) <|
      need (Go.Proofs.YthmmpfaghmoenaaDoor.i64B (List.getD l0 (0 : Nat) (0 : Int))) <|
      some [⟨(.int .u8), (Go.Proofs.YthmmpfaghmoenaaDoor.ptV (List.getD l0 (0 : Nat) (0 : Int)) : Int)⟩, ⟨.bool, (Go.Proofs.YthmmpfaghmoenaaDoor.ptOk (List.getD l0 (0 : Nat) (0 : Int)) : Bool)⟩]) := by kernel_rfl

end Go.Proofs.YthmmpfaghmoenaaDoor

namespace Go.Proofs.YthmmpfaghmoenaaDoor
open Go Go.Am

theorem u8_bounds (n : Int) : 0 ≤ IntKind.u8.wrap n ∧ IntKind.u8.wrap n < 256 := by
  have e : IntKind.u8.wrap n = n % 256 := IntKind.wrap_u8 n
  rw [e]; omega
def byteN (n : Int) : UInt8 := UInt8.ofNat (Int.toNat n)
def readF (l : List Int) : List UInt8 × Bool := if l.all ptOk = true then (l.map fun n => byteN (ptV n), true) else ([], false)

theorem get_cons {α : Type} {l : List α} {i : Nat} {d : α} (h : i < l.length) : l.drop i = l.getD i d :: l.drop (i + 1) := by
  rw [List.drop_eq_getElem_cons h]
  simp [List.getD_eq_getElem?_getD, h]
theorem all_drop {α : Type} {p : α → Bool} {l : List α} (h : l.all p = true) {i : Nat} {d : α} (hi : i < l.length) : p (l.getD i d) = true := by
  refine List.all_eq_true.1 h _ ?_
  rw [List.getD_eq_getElem?_getD, List.getElem?_eq_getElem hi]
  exact List.getElem_mem hi

theorem rd_loop (n : Nat) (nx : Nat → List Dy → Option (List Dy)) (l : List Int) (hl : l.length ≤ 1000000) (hb : l.all i64B = true) : ∀ (m i : Nat) (acc : List UInt8), i ≤ l.length → l.length < i + m → acc.length ≤ i →
    RL SRd [.list 5 .byte, .bool] n 51 0 nx m [⟨.list 5 .byte, acc⟩, ⟨.int .i64, (i : Int)⟩, ⟨.int .i64, (l.length : Int)⟩, ⟨.list 3 (.int .i64), l⟩] =
      some (if (l.drop i).all ptOk = true then [⟨.list 5 .byte, acc ++ (l.drop i).map fun n => byteN (ptV n)⟩, ⟨.bool, true⟩] else [⟨.list 5 .byte, ([] : List UInt8)⟩, ⟨.bool, false⟩])
  | 0, i, acc, h1, h2, _ => by omega
  | m + 1, i, acc, h1, h2, h3 => by
    rw [Rd_L0]
    by_cases hi : i < l.length
    · have e1 : IntKind.i64.wrap ((i : Int) + 1) = ((i + 1 : Nat) : Int) := by rw [w64 (by omega)]; omega
      have hx := all_drop hb (d := 0) hi
      rw [Int.toNat_natCast, e1, get_cons (d := 0) hi]
      simp only [List.all_cons, List.map_cons]
      generalize l.getD i 0 = x at hx ⊢
      have hp := u8_bounds (mF x)
      refine bpd (by omega) (nd (by omega) (nd (by omega) (nd hi (np hx ?_))))
      cases ho : ptOk x with
      | false => simp
      | true =>
        refine bn rfl (nd hp.1 (nd hp.2 (nd (by simp; omega) (nd (by simp; omega) ?_))))
        have := rd_loop n nx l hl hb m (i + 1) (acc ++ [byteN (ptV x)]) (by omega) (by omega) (by simp; omega)
        simp only [List.append_assoc, List.singleton_append] at this
        rw [Bool.true_and]
        exact this
    · have : l.drop i = [] := List.drop_eq_nil_iff.2 (by omega)
      rw [this]
      refine bnd (by omega) ?_
      simp
theorem rd_ok (l : List Int) (hl : l.length ≤ 1000000) (hb : l.all i64B = true) : ∃ n, fnY SRd loopY [.hole (.list 3 (.int .i64)), .func 52 [] []] [.list 5 .byte, .bool] n 51 [⟨.list 3 (.int .i64), l⟩] = some [⟨.list 5 .byte, (readF l).1⟩, ⟨.bool, (readF l).2⟩] := by
  refine ⟨l.length + 1, ?_⟩
  rw [Rd_fn]
  have := rd_loop (l.length + 1) noNx l hl hb (l.length + 1) 0 [] (by omega) (by omega) (by simp)
  refine Eq.trans this ?_
  unfold readF
  rw [List.drop_zero]
  split <;> simp
def cRd : Ctr where
  pat := [.hole (.list 3 (.int .i64)), .func 52 [] []]
  res := (ctr1 (.list 3 (.int .i64)) [] (fun (l : List Int) => [decide (l.length ≤ 1000000), l.all i64B]) fun (l : List Int) => [⟨.list 5 .byte, (readF l).1⟩, ⟨.bool, (readF l).2⟩]).res
  out := [.list 5 .byte, .bool]
theorem ctrP_ok {S : SE} (hS : SOkE S) {g : FuncId} (hOg : ∀ vs, S.E.orc g vs = none) (hfull : S.E.full g = false) {ct : Ctr} (hp : SP.pureL ct.pat = true) (h : ∀ ds gs ds', ct.res ds = some (gs, ds') → gs.all id = true → ∃ n, fnY S loopY ct.pat ct.out n g ds = some ds') : CtrOk S.E g ct :=
  CtrOk.of_fn hS.G hS.ctr hS.orc hS.mem hOg hfull hp h
theorem cRd_ok : CtrOk EP 51 cRd := ctrP_ok (S := SRd) (S_ok c2_ok m2_ok) (fun _ => rfl) rfl rfl fun ds gs ds' hr hg => by
  obtain ⟨l, rfl, rfl, rfl⟩ := ctr1_res (out := []) hr
  simp only [List.all_cons, id, decide_eq_true_eq, List.all_nil, Bool.and_true, Bool.and_eq_true] at hg
  exact rd_ok l hg.1 hg.2

def b1Ok (l : List Int) : Bool := decide (l.length = 1) && ptOk (l.getD 0 0)
def b1V (l : List Int) : Int := if l.length = 1 then ptV (l.getD 0 0) else 0
theorem b1_ok (l : List Int) (hb : l.all i64B = true) : ∃ n, fnY SB1 loopY [.hole (.list 3 (.int .i64))] [.int .u8, .bool] n 55 [⟨.list 3 (.int .i64), l⟩] = some [⟨.int .u8, b1V l⟩, ⟨.bool, b1Ok l⟩] := by
  refine ⟨0, ?_⟩
  rw [B1_fn]
  unfold b1V b1Ok
  by_cases h : l.length = 1
  · rw [if_pos h, decide_eq_true h, Bool.true_and]
    exact bn (by simp [h]) (nd (by omega) (nd (by omega) (np (all_drop hb (by omega)) rfl)))
  · rw [if_neg h, decide_eq_false h, Bool.false_and]
    exact bp (by simp; omega) rfl
def cB1 : Ctr := ctr1 (.list 3 (.int .i64)) [.int .u8, .bool] (fun (l : List Int) => [l.all i64B]) fun (l : List Int) => [⟨.int .u8, b1V l⟩, ⟨.bool, b1Ok l⟩]
theorem cB1_ok : CtrOk EP 55 cB1 := ctr1_ok (S := SB1) (t := .list 3 (.int .i64)) (S_ok c2_ok m2_ok) (fun _ => rfl) rfl fun (l : List Int) h => by
  simp only [List.all_cons, id, List.all_nil, Bool.and_true] at h
  exact b1_ok l h
def c3 : FuncId → List Ctr := addCtr (addCtr c2 51 cRd) 55 cB1
theorem c3_ok : ∀ g ct, ct ∈ c3 g → CtrOk EP g ct := addCtr_ok (addCtr_ok c2_ok cRd_ok) cB1_ok
end Go.Proofs.YthmmpfaghmoenaaDoor

namespace Go.Proofs.YthmmpfaghmoenaaDoor
open Go Go.Am
set_option linter.unusedVariables false
def R2_T0 : Tm := { tmps := [(12, (.hole (.int .i64))), (11, (.hole (.int .i64))), (10, (.hole tyL)), (4, .h 0), (1, (.func 55 [] []))], objs := [.lst 5 .byte true], prep := [(4, 5)] }
def tmR2 : FuncId → Nat → Option Tm := fun g i => match Nat.beq g 54 with
  | true => match Nat.beq i 0 with | true => some R2_T0 | false => none
  | false => none
noncomputable def SR2 : SE := { E := EP, ctr := c3, tm := tmR2, un := 300, ctrM := m2 }
theorem R2_L0 (n : Nat) (nx : Nat → List Dy → Option (List Dy)) (m : Nat) (l0 : List UInt8) (n1 : Int) (n2 : Int) (l3 : List (List Int)) :
    RL SR2 [(.list 5 .byte), .bool] n 54 0 nx (m + 1) [⟨(.list 5 .byte), l0⟩, ⟨(.int .i64), n1⟩, ⟨(.int .i64), n2⟩, ⟨tyL, l3⟩] =
    (bif (decide (n1 < n2)) then
      need (decide ((0 : Int) ≤ n1)) <|
      need (decide (n1 < (↑(List.length l3) : Int))) <|
      need (decide (Int.toNat n1 < List.length l3)) <|
      need (List.all (List.getD l3 (Int.toNat n1) []) i64B) <|
      bif (!b1Ok (List.getD l3 (Int.toNat n1) [])) then
        some [⟨(.list 5 .byte), ([] : List UInt8)⟩, ⟨.bool, (Bool.false : Bool)⟩]
      else
        need (decide ((0 : Int) ≤ b1V (List.getD l3 (Int.toNat n1) []))) <|
        need (decide (b1V (List.getD l3 (Int.toNat n1) []) < (256 : Int))) <|
        need (decide ((List.length l0 + List.length [UInt8.ofNat (Int.toNat (b1V (List.getD l3 (Int.toNat n1) [])))]) * (1 : Nat) ≤ (140737488355328 : Nat))) <|
        need (decide (List.length l0 + List.length [UInt8.ofNat (Int.toNat (b1V (List.getD l3 (Int.toNat n1) [])))] ≤ (140737488355328 : Nat))) <|
        RL SR2 [(.list 5 .byte), .bool] n 54 0 nx m [⟨(.list 5 .byte), (l0 ++ [UInt8.ofNat (Int.toNat (b1V (List.getD l3 (Int.toNat n1) [])))] : List UInt8)⟩, ⟨(.int .i64), (Go.IntKind.wrap Go.IntKind.i64 (n1 + (1 : Int)) : Int)⟩, ⟨(.int .i64), (n2 : Int)⟩, ⟨tyL, (l3 : List (List Int))⟩]
    else
      some [⟨(.list 5 .byte), (l0 : List UInt8)⟩, ⟨.bool, (Bool.true : Bool)⟩]) := by kernel_rfl
theorem R2_fn (n : Nat) (l0 : List (List Int)) :
    fnY SR2 loopY [(.hole tyL), (.func 55 [] [])] [(.list 5 .byte), .bool] n 54 [⟨tyL, l0⟩] =
    (RL SR2 [(.list 5 .byte), .bool] n 54 0 noNx n [⟨(.list 5 .byte), ([] : List UInt8)⟩, ⟨(.int .i64), ((0 : Int) : Int)⟩, ⟨(.int .i64), ((↑(List.length l0) : Int) : Int)⟩, ⟨tyL, (l0 : List (List Int))⟩]) := by kernel_rfl

def tmSv : FuncId → Nat → Option Tm := fun g i => match Nat.beq g 30 with
  | true => none
  | false => none
noncomputable def SSv : SE := { E := EP, ctr := c3, tm := tmSv, un := 300, ctrM := m2 }
theorem Sv_fn (n : Nat) (p0 : A0) (l1 : List Int) :
    fnY SSv loopY [(.hole tyA), (.hole (.list 3 (.int .i64)))] [tyA] n 30 [⟨tyA, p0⟩, ⟨(.list 3 (.int .i64)), l1⟩] =
    (need (decide ((0 : Int) < (↑(List.length l1) : Int))) <|
    need (decide ((0 : Nat) < List.length l1)) <|
    need (decide ((1 : Int) < (↑(List.length l1) : Int))) <|
    need (decide ((1 : Nat) < List.length l1)) <|
    need (decide ((2 : Int) ≤ (↑(List.length l1) : Int))) <|
    need (decide ((↑(List.length l1) : Int) ≤ (↑(List.length l1) : Int))) <|
    bif (List.getD l1 (0 : Nat) (0 : Int) == (4 : Int) && (↑(List.length (List.take (Int.toNat (↑(List.length l1) : Int) - (2 : Nat)) (List.drop (2 : Nat) l1))) : Int) == (0 : Int)) then
      bif (List.getD l1 (1 : Nat) (0 : Int) == (0 : Int)) then
        some [⟨tyA, ((Prod.fst p0, Prod.fst (Prod.snd p0), orF (clrL [(264 : Int)] (Prod.fst (Prod.snd (Prod.snd p0)))) (0 : Int), ()) : A0)⟩]
      else
        bif (List.getD l1 (1 : Nat) (0 : Int) == (1 : Int)) then
          some [⟨tyA, ((Prod.fst p0, Prod.fst (Prod.snd p0), orF (clrL [(264 : Int)] (Prod.fst (Prod.snd (Prod.snd p0)))) (8 : Int), ()) : A0)⟩]
        else
          bif (List.getD l1 (1 : Nat) (0 : Int) == (2 : Int)) then
            some [⟨tyA, ((Prod.fst p0, Prod.fst (Prod.snd p0), orF (clrL [(264 : Int)] (Prod.fst (Prod.snd (Prod.snd p0)))) (256 : Int), ()) : A0)⟩]
          else
            some [⟨tyA, (p0 : A0)⟩]
    else
      bif (List.getD l1 (0 : Nat) (0 : Int) == (38 : Int)) then
        bif (List.getD l1 (0 : Nat) (0 : Int) == (38 : Int)) then
          bif (List.getD l1 (1 : Nat) (0 : Int) == (2 : Int) && (↑(List.length (List.take (Int.toNat (↑(List.length l1) : Int) - (2 : Nat)) (List.drop (2 : Nat) l1))) : Int) == (4 : Int)) then
            need (decide ((1 : Int) ≤ (↑(List.length (List.take (Int.toNat (↑(List.length l1) : Int) - (2 : Nat)) (List.drop (2 : Nat) l1))) : Int))) <|
            need (decide ((↑(List.length (List.take (Int.toNat (↑(List.length l1) : Int) - (2 : Nat)) (List.drop (2 : Nat) l1))) : Int) ≤ (↑(List.length (List.take (Int.toNat (↑(List.length l1) : Int) - (2 : Nat)) (List.drop (2 : Nat) l1))) : Int))) <|
            need (decide (List.length (List.take (Int.toNat (↑(List.length (List.take (Int.toNat (↑(List.length l1) : Int) - (2 : Nat)) (List.drop (2 : Nat) l1))) : Int) - (1 : Nat)) (List.drop (1 : Nat) (List.take (Int.toNat (↑(List.length l1) : Int) - (2 : Nat)) (List.drop (2 : Nat) l1)))) ≤ (1000000 : Nat))) <|
            need (List.all (List.take (Int.toNat (↑(List.length (List.take (Int.toNat (↑(List.length l1) : Int) - (2 : Nat)) (List.drop (2 : Nat) l1))) : Int) - (1 : Nat)) (List.drop (1 : Nat) (List.take (Int.toNat (↑(List.length l1) : Int) - (2 : Nat)) (List.drop (2 : Nat) l1)))) i64B) <|
            bif (Prod.snd (readF (List.take (Int.toNat (↑(List.length (List.take (Int.toNat (↑(List.length l1) : Int) - (2 : Nat)) (List.drop (2 : Nat) l1))) : Int) - (1 : Nat)) (List.drop (1 : Nat) (List.take (Int.toNat (↑(List.length l1) : Int) - (2 : Nat)) (List.drop (2 : Nat) l1)))))) then
              bif (Prod.snd (clF (List.getD l1 (1 : Nat) (0 : Int)) (Prod.fst (readF (List.take (Int.toNat (↑(List.length (List.take (Int.toNat (↑(List.length l1) : Int) - (2 : Nat)) (List.drop (2 : Nat) l1))) : Int) - (1 : Nat)) (List.drop (1 : Nat) (List.take (Int.toNat (↑(List.length l1) : Int) - (2 : Nat)) (List.drop (2 : Nat) l1)))))))) then
                bif (List.getD l1 (0 : Nat) (0 : Int) == (38 : Int)) then
                  some [⟨tyA, ((Prod.fst (clF (List.getD l1 (1 : Nat) (0 : Int)) (Prod.fst (readF (List.take (Int.toNat (↑(List.length (List.take (Int.toNat (↑(List.length l1) : Int) - (2 : Nat)) (List.drop (2 : Nat) l1))) : Int) - (1 : Nat)) (List.drop (1 : Nat) (List.take (Int.toNat (↑(List.length l1) : Int) - (2 : Nat)) (List.drop (2 : Nat) l1))))))), Prod.snd p0) : A0)⟩]
                else
                  some [⟨tyA, ((Prod.fst p0, Prod.fst (clF (List.getD l1 (1 : Nat) (0 : Int)) (Prod.fst (readF (List.take (Int.toNat (↑(List.length (List.take (Int.toNat (↑(List.length l1) : Int) - (2 : Nat)) (List.drop (2 : Nat) l1))) : Int) - (1 : Nat)) (List.drop (1 : Nat) (List.take (Int.toNat (↑(List.length l1) : Int) - (2 : Nat)) (List.drop (2 : Nat) l1))))))), Prod.snd (Prod.snd p0)) : A0)⟩]
              else
                some [⟨tyA, (p0 : A0)⟩]
            else
              some [⟨tyA, (p0 : A0)⟩]
          else
            need (decide (List.length (List.take (Int.toNat (↑(List.length l1) : Int) - (2 : Nat)) (List.drop (2 : Nat) l1)) ≤ (1000000 : Nat))) <|
            need (List.all (List.take (Int.toNat (↑(List.length l1) : Int) - (2 : Nat)) (List.drop (2 : Nat) l1)) i64B) <|
            bif (Prod.snd (readF (List.take (Int.toNat (↑(List.length l1) : Int) - (2 : Nat)) (List.drop (2 : Nat) l1)))) then
              bif (Prod.snd (clF (List.getD l1 (1 : Nat) (0 : Int)) (Prod.fst (readF (List.take (Int.toNat (↑(List.length l1) : Int) - (2 : Nat)) (List.drop (2 : Nat) l1)))))) then
                bif (List.getD l1 (0 : Nat) (0 : Int) == (38 : Int)) then
                  some [⟨tyA, ((Prod.fst (clF (List.getD l1 (1 : Nat) (0 : Int)) (Prod.fst (readF (List.take (Int.toNat (↑(List.length l1) : Int) - (2 : Nat)) (List.drop (2 : Nat) l1))))), Prod.snd p0) : A0)⟩]
                else
                  some [⟨tyA, ((Prod.fst p0, Prod.fst (clF (List.getD l1 (1 : Nat) (0 : Int)) (Prod.fst (readF (List.take (Int.toNat (↑(List.length l1) : Int) - (2 : Nat)) (List.drop (2 : Nat) l1))))), Prod.snd (Prod.snd p0)) : A0)⟩]
              else
                some [⟨tyA, (p0 : A0)⟩]
            else
              some [⟨tyA, (p0 : A0)⟩]
        else
          some [⟨tyA, (p0 : A0)⟩]
      else
        bif (List.getD l1 (0 : Nat) (0 : Int) == (48 : Int)) then
          bif (List.getD l1 (1 : Nat) (0 : Int) == (2 : Int) && (↑(List.length (List.take (Int.toNat (↑(List.length l1) : Int) - (2 : Nat)) (List.drop (2 : Nat) l1))) : Int) == (4 : Int)) then
            need (decide ((1 : Int) ≤ (↑(List.length (List.take (Int.toNat (↑(List.length l1) : Int) - (2 : Nat)) (List.drop (2 : Nat) l1))) : Int))) <|
            need (decide ((↑(List.length (List.take (Int.toNat (↑(List.length l1) : Int) - (2 : Nat)) (List.drop (2 : Nat) l1))) : Int) ≤ (↑(List.length (List.take (Int.toNat (↑(List.length l1) : Int) - (2 : Nat)) (List.drop (2 : Nat) l1))) : Int))) <|
            need (decide (List.length (List.take (Int.toNat (↑(List.length (List.take (Int.toNat (↑(List.length l1) : Int) - (2 : Nat)) (List.drop (2 : Nat) l1))) : Int) - (1 : Nat)) (List.drop (1 : Nat) (List.take (Int.toNat (↑(List.length l1) : Int) - (2 : Nat)) (List.drop (2 : Nat) l1)))) ≤ (1000000 : Nat))) <|
            need (List.all (List.take (Int.toNat (↑(List.length (List.take (Int.toNat (↑(List.length l1) : Int) - (2 : Nat)) (List.drop (2 : Nat) l1))) : Int) - (1 : Nat)) (List.drop (1 : Nat) (List.take (Int.toNat (↑(List.length l1) : Int) - (2 : Nat)) (List.drop (2 : Nat) l1)))) i64B) <|
            bif (Prod.snd (readF (List.take (Int.toNat (↑(List.length (List.take (Int.toNat (↑(List.length l1) : Int) - (2 : Nat)) (List.drop (2 : Nat) l1))) : Int) - (1 : Nat)) (List.drop (1 : Nat) (List.take (Int.toNat (↑(List.length l1) : Int) - (2 : Nat)) (List.drop (2 : Nat) l1)))))) then
              bif (Prod.snd (clF (List.getD l1 (1 : Nat) (0 : Int)) (Prod.fst (readF (List.take (Int.toNat (↑(List.length (List.take (Int.toNat (↑(List.length l1) : Int) - (2 : Nat)) (List.drop (2 : Nat) l1))) : Int) - (1 : Nat)) (List.drop (1 : Nat) (List.take (Int.toNat (↑(List.length l1) : Int) - (2 : Nat)) (List.drop (2 : Nat) l1)))))))) then
                bif (List.getD l1 (0 : Nat) (0 : Int) == (38 : Int)) then
                  some [⟨tyA, ((Prod.fst (clF (List.getD l1 (1 : Nat) (0 : Int)) (Prod.fst (readF (List.take (Int.toNat (↑(List.length (List.take (Int.toNat (↑(List.length l1) : Int) - (2 : Nat)) (List.drop (2 : Nat) l1))) : Int) - (1 : Nat)) (List.drop (1 : Nat) (List.take (Int.toNat (↑(List.length l1) : Int) - (2 : Nat)) (List.drop (2 : Nat) l1))))))), Prod.snd p0) : A0)⟩]
                else
                  some [⟨tyA, ((Prod.fst p0, Prod.fst (clF (List.getD l1 (1 : Nat) (0 : Int)) (Prod.fst (readF (List.take (Int.toNat (↑(List.length (List.take (Int.toNat (↑(List.length l1) : Int) - (2 : Nat)) (List.drop (2 : Nat) l1))) : Int) - (1 : Nat)) (List.drop (1 : Nat) (List.take (Int.toNat (↑(List.length l1) : Int) - (2 : Nat)) (List.drop (2 : Nat) l1))))))), Prod.snd (Prod.snd p0)) : A0)⟩]
              else
                some [⟨tyA, (p0 : A0)⟩]
            else
              some [⟨tyA, (p0 : A0)⟩]
          else
            need (decide (List.length (List.take (Int.toNat (↑(List.length l1) : Int) - (2 : Nat)) (List.drop (2 : Nat) l1)) ≤ (1000000 : Nat))) <|
            need (List.all (List.take (Int.toNat (↑(List.length l1) : Int) - (2 : Nat)) (List.drop (2 : Nat) l1)) i64B) <|
            bif (Prod.snd (readF (List.take (Int.toNat (↑(List.length l1) : Int) - (2 : Nat)) (List.drop (2 : Nat) l1)))) then
              bif (Prod.snd (clF (List.getD l1 (1 : Nat) (0 : Int)) (Prod.fst (readF (List.take (Int.toNat (↑(List.length l1) : Int) - (2 : Nat)) (List.drop (2 : Nat) l1)))))) then
                bif (List.getD l1 (0 : Nat) (0 : Int) == (38 : Int)) then
                  some [⟨tyA, ((Prod.fst (clF (List.getD l1 (1 : Nat) (0 : Int)) (Prod.fst (readF (List.take (Int.toNat (↑(List.length l1) : Int) - (2 : Nat)) (List.drop (2 : Nat) l1))))), Prod.snd p0) : A0)⟩]
                else
                  some [⟨tyA, ((Prod.fst p0, Prod.fst (clF (List.getD l1 (1 : Nat) (0 : Int)) (Prod.fst (readF (List.take (Int.toNat (↑(List.length l1) : Int) - (2 : Nat)) (List.drop (2 : Nat) l1))))), Prod.snd (Prod.snd p0)) : A0)⟩]
              else
                some [⟨tyA, (p0 : A0)⟩]
            else
              some [⟨tyA, (p0 : A0)⟩]
        else
          some [⟨tyA, (p0 : A0)⟩]) := by kernel_rfl

end Go.Proofs.YthmmpfaghmoenaaDoor

namespace Go.Proofs.YthmmpfaghmoenaaDoor
open Go Go.Am

def allB (l : List (List Int)) : Bool := l.all fun r => r.all i64B
theorem b1_bounds (l : List Int) : 0 ≤ b1V l ∧ b1V l < 256 := by
  unfold b1V
  split
  · exact u8_bounds _
  · omega
def readG (l : List (List Int)) : List UInt8 × Bool := if l.all b1Ok = true then (l.map fun n => byteN (b1V n), true) else ([], false)
theorem r2_loop (n : Nat) (nx : Nat → List Dy → Option (List Dy)) (l : List (List Int)) (hl : l.length ≤ 1000000) (hb : allB l = true) : ∀ (m i : Nat) (acc : List UInt8), i ≤ l.length → l.length < i + m → acc.length ≤ i →
    RL SR2 [.list 5 .byte, .bool] n 54 0 nx m [⟨.list 5 .byte, acc⟩, ⟨.int .i64, (i : Int)⟩, ⟨.int .i64, (l.length : Int)⟩, ⟨.list 36 (.list 3 (.int .i64)), l⟩] =
      some (if (l.drop i).all b1Ok = true then [⟨.list 5 .byte, acc ++ (l.drop i).map fun n => byteN (b1V n)⟩, ⟨.bool, true⟩] else [⟨.list 5 .byte, ([] : List UInt8)⟩, ⟨.bool, false⟩])
  | 0, i, acc, h1, h2, _ => by omega
  | m + 1, i, acc, h1, h2, h3 => by
    rw [R2_L0]
    by_cases hi : i < l.length
    · have e1 : IntKind.i64.wrap ((i : Int) + 1) = ((i + 1 : Nat) : Int) := by rw [w64 (by omega)]; omega
      have hx := all_drop hb (d := []) hi
      rw [Int.toNat_natCast, e1, get_cons (d := []) hi]
      simp only [List.all_cons, List.map_cons]
      generalize l.getD i [] = x at hx ⊢
      have hp := b1_bounds x
      refine bpd (by omega) (nd (by omega) (nd (by omega) (nd hi (np hx ?_))))
      cases ho : b1Ok x with
      | false => simp
      | true =>
        refine bn rfl (nd hp.1 (nd hp.2 (nd (by simp; omega) (nd (by simp; omega) ?_))))
        have := r2_loop n nx l hl hb m (i + 1) (acc ++ [byteN (b1V x)]) (by omega) (by omega) (by simp; omega)
        simp only [List.append_assoc, List.singleton_append] at this
        rw [Bool.true_and]
        exact this
    · have : l.drop i = [] := List.drop_eq_nil_iff.2 (by omega)
      rw [this]
      refine bnd (by omega) ?_
      simp
theorem r2_ok (l : List (List Int)) (hl : l.length ≤ 1000000) (hb : allB l = true) : ∃ n, fnY SR2 loopY [.hole (.list 36 (.list 3 (.int .i64))), .func 55 [] []] [.list 5 .byte, .bool] n 54 [⟨.list 36 (.list 3 (.int .i64)), l⟩] = some [⟨.list 5 .byte, (readG l).1⟩, ⟨.bool, (readG l).2⟩] := by
  refine ⟨l.length + 1, ?_⟩
  rw [R2_fn]
  have := r2_loop (l.length + 1) noNx l hl hb (l.length + 1) 0 [] (by omega) (by omega) (by simp)
  refine Eq.trans this ?_
  unfold readG
  rw [List.drop_zero]
  split <;> simp
def cR2 : Ctr where
  pat := [.hole (.list 36 (.list 3 (.int .i64))), .func 55 [] []]
  res := (ctr1 (.list 36 (.list 3 (.int .i64))) [] (fun (l : List (List Int)) => [decide (l.length ≤ 1000000), allB l]) fun (l : List (List Int)) => [⟨.list 5 .byte, (readG l).1⟩, ⟨.bool, (readG l).2⟩]).res
  out := [.list 5 .byte, .bool]
theorem cR2_ok : CtrOk EP 54 cR2 := ctrP_ok (S := SR2) (S_ok c3_ok m2_ok) (fun _ => rfl) rfl rfl fun ds gs ds' hr hg => by
  obtain ⟨l, rfl, rfl, rfl⟩ := ctr1_res (out := []) hr
  simp only [List.all_cons, id, decide_eq_true_eq, List.all_nil, Bool.and_true, Bool.and_eq_true] at hg
  exact r2_ok l hg.1 hg.2

def toF (which : Int) (c : C0) (a : A0) : A0 := if which = 38 then (c, a.2.1, a.2.2.1, ()) else (a.1, c, a.2.2.1, ())
def colF (a : A0) (which k : Int) (r : List UInt8 × Bool) : A0 := if r.2 = true ∧ (clF k r.1).2 = true then toF which (clF k r.1).1 a else a
def sevF (a : A0) (l : List Int) : A0 :=
  if l.getD 0 0 = 4 ∧ l.length = 2 then
    if l.getD 1 0 = 0 then flF a 0 [264] else if l.getD 1 0 = 1 then flF a 8 [264] else if l.getD 1 0 = 2 then flF a 256 [264] else a
  else if l.getD 0 0 = 38 ∨ l.getD 0 0 = 48 then
    if l.getD 1 0 = 2 ∧ l.length = 6 then colF a (l.getD 0 0) (l.getD 1 0) (readF (l.drop 3)) else colF a (l.getD 0 0) (l.getD 1 0) (readF (l.drop 2))
  else a

theorem take_rest (l : List Int) (k : Nat) : List.take (Int.toNat (l.length : Int) - k) (List.drop k l) = l.drop k := List.take_of_length_le (by simp)

theorem tail_ok (w k : Int) (r : List UInt8 × Bool) (a : A0) {x y u v : Option (List Dy)} (hx : x = some [⟨tyA, (((clF k r.1).1, a.2.1, a.2.2.1, ()) : A0)⟩]) (hy : y = some [⟨tyA, ((a.1, (clF k r.1).1, a.2.2.1, ()) : A0)⟩])
    (hu : u = some [⟨tyA, a⟩]) (hv : v = some [⟨tyA, a⟩]) : (bif r.2 then (bif (clF k r.1).2 then (bif w == 38 then x else y) else u) else v) = some [⟨tyA, colF a w k r⟩] := by
  subst hx hy hu hv
  unfold colF toF
  cases r.2 with
  | false => simp
  | true =>
    cases (clF k r.1).2 with
    | false => simp
    | true =>
      by_cases e : w = 38
      · subst e; simp
      · have e2 : (w == 38) = false := by simpa using e
        simp [e, e2]
theorem take3 (l : List Int) : List.take (Int.toNat (((l.drop 2).length : Nat) : Int) - 1) (l.drop 3) = l.drop 3 := List.take_of_length_le (by simp; omega)
theorem drop3 (l : List Int) : List.drop 1 (List.drop 2 l) = l.drop 3 := by rw [List.drop_drop]

theorem sv_ok (a : A0) (l : List Int) (h2 : 2 ≤ l.length) (hl : l.length ≤ 1000000) (hb : l.all i64B = true) : ∃ n, fnY SSv loopY [.hole tyA, .hole (.list 3 (.int .i64))] [tyA] n 30 [⟨tyA, a⟩, ⟨.list 3 (.int .i64), l⟩] = some [⟨tyA, sevF a l⟩] := by
  refine ⟨0, ?_⟩
  rw [Sv_fn]
  simp only [take_rest, drop3, take3]
  have hb2 : (l.drop 2).all i64B = true := List.all_eq_true.2 fun x hx => List.all_eq_true.1 hb x (List.mem_of_mem_drop hx)
  have hb3 : (l.drop 3).all i64B = true := List.all_eq_true.2 fun x hx => List.all_eq_true.1 hb x (List.mem_of_mem_drop hx)
  refine nd (by omega) (nd (by omega) (nd (by omega) (nd (by omega) (nd (by omega) (nd (by omega) ?_)))))
  unfold sevF
  by_cases c1 : l.getD 0 0 = 4 ∧ l.length = 2
  · rw [if_pos c1]
    refine bp (by simp [c1.2, -List.getD_eq_getElem?_getD, c1.1]) ?_
    by_cases d0 : l.getD 1 0 = 0
    · rw [if_pos d0]; exact bp (by rw [d0]; rfl) rfl
    rw [if_neg d0]
    refine bn (by simpa using d0) ?_
    by_cases d1 : l.getD 1 0 = 1
    · rw [if_pos d1]; exact bp (by rw [d1]; rfl) rfl
    rw [if_neg d1]
    refine bn (by simpa using d1) ?_
    by_cases d2 : l.getD 1 0 = 2
    · rw [if_pos d2]; exact bp (by rw [d2]; rfl) rfl
    rw [if_neg d2]
    exact bn (by simpa using d2) rfl
  rw [if_neg c1]
  have hl2 : (l.drop 2).length = l.length - 2 := by rw [List.length_drop]
  have hl3 : (l.drop 3).length = l.length - 3 := by rw [List.length_drop]
  refine bn (by
    by_cases e : l.getD 0 0 = 4
    · have : ¬ l.length = 2 := fun h => c1 ⟨e, h⟩
      simp only [e, beq_self_eq_true, Bool.true_and, beq_eq_false_iff_ne, ne_eq, hl2]
      omega
    · simp [-List.getD_eq_getElem?_getD, e]) ?_
  have four : ∀ {k : Int}, (k == 2 && (((l.drop 2).length : Nat) : Int) == 4) = decide (k = 2 ∧ l.length = 6) := by
    intro k
    rw [hl2, Bool.eq_iff_iff]
    simp only [Bool.and_eq_true, beq_iff_eq, decide_eq_true_eq]
    omega
  have sel : ∀ (w : Int) {x y : Option (List Dy)}, (l.getD 1 0 = 2 ∧ l.length = 6 → x = some [⟨tyA, colF a w (l.getD 1 0) (readF (l.drop 3))⟩]) → (¬ (l.getD 1 0 = 2 ∧ l.length = 6) → y = some [⟨tyA, colF a w (l.getD 1 0) (readF (l.drop 2))⟩]) →
      (bif (l.getD 1 0 == 2 && (((l.drop 2).length : Nat) : Int) == 4) then x else y) = some [⟨tyA, if l.getD 1 0 = 2 ∧ l.length = 6 then colF a w (l.getD 1 0) (readF (l.drop 3)) else colF a w (l.getD 1 0) (readF (l.drop 2))⟩] := by
    intro w x y hx hy
    rw [four]
    by_cases e : l.getD 1 0 = 2 ∧ l.length = 6
    · rw [if_pos e]; exact bpd e (hx e)
    · rw [if_neg e]; exact bnd e (hy e)
  by_cases c2 : l.getD 0 0 = 38
  · rw [if_pos (.inl c2)]
    refine bp (by rw [c2]; rfl) (bp (by rw [c2]; rfl) (sel _ (fun e => ?_) (fun e => ?_)))
    · exact nd (by omega) (nd (by omega) (nd (by omega) (np hb3 (tail_ok _ _ _ _ rfl rfl rfl rfl))))
    · exact nd (by omega) (np hb2 (tail_ok _ _ _ _ rfl rfl rfl rfl))
  refine bn (by simpa [-List.getD_eq_getElem?_getD] using c2) ?_
  by_cases c3 : l.getD 0 0 = 48
  · rw [if_pos (.inr c3)]
    refine bp (by rw [c3]; rfl) (sel _ (fun e => ?_) (fun e => ?_))
    · exact nd (by omega) (nd (by omega) (nd (by omega) (np hb3 (tail_ok _ _ _ _ rfl rfl rfl rfl))))
    · exact nd (by omega) (np hb2 (tail_ok _ _ _ _ rfl rfl rfl rfl))
  rw [if_neg (by omega)]
  exact bn (by simpa [-List.getD_eq_getElem?_getD] using c3) rfl
def cSv : Ctr := ctr2 tyA (.list 3 (.int .i64)) [tyA] (fun _ (l : List Int) => [decide (2 ≤ l.length), decide (l.length ≤ 1000000), l.all i64B]) fun (a : A0) (l : List Int) => [⟨tyA, sevF a l⟩]
theorem cSv_ok : CtrOk EP 30 cSv := ctr2_ok (S := SSv) (t := tyA) (u := .list 3 (.int .i64)) (S_ok c3_ok m2_ok) (fun _ => rfl) rfl fun (a : A0) (l : List Int) h => by
  simp only [List.all_cons, id, decide_eq_true_eq, List.all_nil, Bool.and_true, Bool.and_eq_true] at h
  exact sv_ok a l h.1 h.2.1 h.2.2
def c4 : FuncId → List Ctr := addCtr (addCtr c3 54 cR2) 30 cSv
theorem c4_ok : ∀ g ct, ct ∈ c4 g → CtrOk EP g ct := addCtr_ok (addCtr_ok c3_ok cR2_ok) cSv_ok
end Go.Proofs.YthmmpfaghmoenaaDoor

namespace Go.Proofs.YthmmpfaghmoenaaDoor
open Go Go.Am
set_option linter.unusedVariables false
def tmBh : FuncId → Nat → Option Tm := fun g i => match Nat.beq g 31 with
  | true => none
  | false => none
noncomputable def SBh : SE := { E := EP, ctr := c4, tm := tmBh, un := 300, ctrM := m2 }
theorem Bh_fn (n : Nat) (p0 : A0) (n1 : Int) (l2 : List (List Int)) :
    fnY SBh loopY [(.hole tyA), (.hole (.int .i64)), (.hole tyL)] [tyA, tyL] n 31 [⟨tyA, p0⟩, ⟨(.int .i64), n1⟩, ⟨tyL, l2⟩] =
    (bif ((↑(List.length l2) : Int) == (0 : Int)) then
      some [⟨tyA, (p0 : A0)⟩, ⟨tyL, ([] : List (List Int))⟩]
    else
      need (decide ((0 : Int) < (↑(List.length l2) : Int))) <|
      need (decide ((0 : Nat) < List.length l2)) <|
      need (decide ((1 : Int) ≤ (↑(List.length l2) : Int))) <|
      need (decide ((↑(List.length l2) : Int) ≤ (↑(List.length l2) : Int))) <|
      bif ((↑(List.length (List.getD l2 (0 : Nat) [])) : Int) != (1 : Int)) then
        some [⟨tyA, (p0 : A0)⟩, ⟨tyL, (List.take (Int.toNat (↑(List.length l2) : Int) - (1 : Nat)) (List.drop (1 : Nat) l2) : List (List Int))⟩]
      else
        need (decide ((0 : Int) < (↑(List.length (List.getD l2 (0 : Nat) [])) : Int))) <|
        need (decide ((0 : Nat) < List.length (List.getD l2 (0 : Nat) []))) <|
        bif (List.getD (List.getD l2 (0 : Nat) []) (0 : Nat) (0 : Int) == (5 : Int)) then
          need (decide ((0 : Int) ≤ if (1 : Int) < (↑(List.length (List.take (Int.toNat (↑(List.length l2) : Int) - (1 : Nat)) (List.drop (1 : Nat) l2))) : Int) then (1 : Int) else (↑(List.length (List.take (Int.toNat (↑(List.length l2) : Int) - (1 : Nat)) (List.drop (1 : Nat) l2))) : Int))) <|
          need (decide ((if (1 : Int) < (↑(List.length (List.take (Int.toNat (↑(List.length l2) : Int) - (1 : Nat)) (List.drop (1 : Nat) l2))) : Int) then (1 : Int) else (↑(List.length (List.take (Int.toNat (↑(List.length l2) : Int) - (1 : Nat)) (List.drop (1 : Nat) l2))) : Int)) ≤ (↑(List.length (List.take (Int.toNat (↑(List.length l2) : Int) - (1 : Nat)) (List.drop (1 : Nat) l2))) : Int))) <|
          need (decide ((if (1 : Int) < (↑(List.length (List.take (Int.toNat (↑(List.length l2) : Int) - (1 : Nat)) (List.drop (1 : Nat) l2))) : Int) then (1 : Int) else (↑(List.length (List.take (Int.toNat (↑(List.length l2) : Int) - (1 : Nat)) (List.drop (1 : Nat) l2))) : Int)) ≤ if (1 : Int) < (↑(List.length (List.take (Int.toNat (↑(List.length l2) : Int) - (1 : Nat)) (List.drop (1 : Nat) l2))) : Int) then (1 : Int) else (↑(List.length (List.take (Int.toNat (↑(List.length l2) : Int) - (1 : Nat)) (List.drop (1 : Nat) l2))) : Int))) <|
          need (decide ((if (1 : Int) < (↑(List.length (List.take (Int.toNat (↑(List.length l2) : Int) - (1 : Nat)) (List.drop (1 : Nat) l2))) : Int) then (1 : Int) else (↑(List.length (List.take (Int.toNat (↑(List.length l2) : Int) - (1 : Nat)) (List.drop (1 : Nat) l2))) : Int)) ≤ (↑(List.length (List.take (Int.toNat (↑(List.length l2) : Int) - (1 : Nat)) (List.drop (1 : Nat) l2))) : Int))) <|
          need (decide ((0 : Int) ≤ if (1 : Int) < (↑(List.length (List.take (Int.toNat (↑(List.length l2) : Int) - (1 : Nat)) (List.drop (1 : Nat) l2))) : Int) then (1 : Int) else (↑(List.length (List.take (Int.toNat (↑(List.length l2) : Int) - (1 : Nat)) (List.drop (1 : Nat) l2))) : Int))) <|
          need (decide ((if (1 : Int) < (↑(List.length (List.take (Int.toNat (↑(List.length l2) : Int) - (1 : Nat)) (List.drop (1 : Nat) l2))) : Int) then (1 : Int) else (↑(List.length (List.take (Int.toNat (↑(List.length l2) : Int) - (1 : Nat)) (List.drop (1 : Nat) l2))) : Int)) ≤ (↑(List.length (List.take (Int.toNat (↑(List.length l2) : Int) - (1 : Nat)) (List.drop (1 : Nat) l2))) : Int))) <|
          need (decide ((↑(List.length (List.take (Int.toNat (↑(List.length l2) : Int) - (1 : Nat)) (List.drop (1 : Nat) l2))) : Int) ≤ (↑(List.length (List.take (Int.toNat (↑(List.length l2) : Int) - (1 : Nat)) (List.drop (1 : Nat) l2))) : Int))) <|
          need (decide (List.length (List.take (Int.toNat (if (1 : Int) < (↑(List.length (List.take (Int.toNat (↑(List.length l2) : Int) - (1 : Nat)) (List.drop (1 : Nat) l2))) : Int) then (1 : Int) else (↑(List.length (List.take (Int.toNat (↑(List.length l2) : Int) - (1 : Nat)) (List.drop (1 : Nat) l2))) : Int))) (List.take (Int.toNat (↑(List.length l2) : Int) - (1 : Nat)) (List.drop (1 : Nat) l2))) ≤ (1000000 : Nat))) <|
          need (allB (List.take (Int.toNat (if (1 : Int) < (↑(List.length (List.take (Int.toNat (↑(List.length l2) : Int) - (1 : Nat)) (List.drop (1 : Nat) l2))) : Int) then (1 : Int) else (↑(List.length (List.take (Int.toNat (↑(List.length l2) : Int) - (1 : Nat)) (List.drop (1 : Nat) l2))) : Int))) (List.take (Int.toNat (↑(List.length l2) : Int) - (1 : Nat)) (List.drop (1 : Nat) l2)))) <|
          need (decide ((0 : Int) < (↑(List.length (List.getD l2 (0 : Nat) [])) : Int))) <|
          need (decide ((0 : Nat) < List.length (List.getD l2 (0 : Nat) []))) <|
          bif (Prod.snd (readG (List.take (Int.toNat (if (1 : Int) < (↑(List.length (List.take (Int.toNat (↑(List.length l2) : Int) - (1 : Nat)) (List.drop (1 : Nat) l2))) : Int) then (1 : Int) else (↑(List.length (List.take (Int.toNat (↑(List.length l2) : Int) - (1 : Nat)) (List.drop (1 : Nat) l2))) : Int))) (List.take (Int.toNat (↑(List.length l2) : Int) - (1 : Nat)) (List.drop (1 : Nat) l2)))) && Prod.snd (clF (List.getD (List.getD l2 (0 : Nat) []) (0 : Nat) (0 : Int)) (Prod.fst (readG (List.take (Int.toNat (if (1 : Int) < (↑(List.length (List.take (Int.toNat (↑(List.length l2) : Int) - (1 : Nat)) (List.drop (1 : Nat) l2))) : Int) then (1 : Int) else (↑(List.length (List.take (Int.toNat (↑(List.length l2) : Int) - (1 : Nat)) (List.drop (1 : Nat) l2))) : Int))) (List.take (Int.toNat (↑(List.length l2) : Int) - (1 : Nat)) (List.drop (1 : Nat) l2))))))) then
            bif (n1 == (38 : Int)) then
              some [⟨tyA, ((Prod.fst (clF (List.getD (List.getD l2 (0 : Nat) []) (0 : Nat) (0 : Int)) (Prod.fst (readG (List.take (Int.toNat (if (1 : Int) < (↑(List.length (List.take (Int.toNat (↑(List.length l2) : Int) - (1 : Nat)) (List.drop (1 : Nat) l2))) : Int) then (1 : Int) else (↑(List.length (List.take (Int.toNat (↑(List.length l2) : Int) - (1 : Nat)) (List.drop (1 : Nat) l2))) : Int))) (List.take (Int.toNat (↑(List.length l2) : Int) - (1 : Nat)) (List.drop (1 : Nat) l2)))))), Prod.snd p0) : A0)⟩, ⟨tyL, (List.take (Int.toNat (↑(List.length (List.take (Int.toNat (↑(List.length l2) : Int) - (1 : Nat)) (List.drop (1 : Nat) l2))) : Int) - Int.toNat (if (1 : Int) < (↑(List.length (List.take (Int.toNat (↑(List.length l2) : Int) - (1 : Nat)) (List.drop (1 : Nat) l2))) : Int) then (1 : Int) else (↑(List.length (List.take (Int.toNat (↑(List.length l2) : Int) - (1 : Nat)) (List.drop (1 : Nat) l2))) : Int))) (List.drop (Int.toNat (if (1 : Int) < (↑(List.length (List.take (Int.toNat (↑(List.length l2) : Int) - (1 : Nat)) (List.drop (1 : Nat) l2))) : Int) then (1 : Int) else (↑(List.length (List.take (Int.toNat (↑(List.length l2) : Int) - (1 : Nat)) (List.drop (1 : Nat) l2))) : Int))) (List.take (Int.toNat (↑(List.length l2) : Int) - (1 : Nat)) (List.drop (1 : Nat) l2))) : List (List Int))⟩]
            else
              some [⟨tyA, ((Prod.fst p0, Prod.fst (clF (List.getD (List.getD l2 (0 : Nat) []) (0 : Nat) (0 : Int)) (Prod.fst (readG (List.take (Int.toNat (if (1 : Int) < (↑(List.length (List.take (Int.toNat (↑(List.length l2) : Int) - (1 : Nat)) (List.drop (1 : Nat) l2))) : Int) then (1 : Int) else (↑(List.length (List.take (Int.toNat (↑(List.length l2) : Int) - (1 : Nat)) (List.drop (1 : Nat) l2))) : Int))) (List.take (Int.toNat (↑(List.length l2) : Int) - (1 : Nat)) (List.drop (1 : Nat) l2)))))), Prod.snd (Prod.snd p0)) : A0)⟩, ⟨tyL, (List.take (Int.toNat (↑(List.length (List.take (Int.toNat (↑(List.length l2) : Int) - (1 : Nat)) (List.drop (1 : Nat) l2))) : Int) - Int.toNat (if (1 : Int) < (↑(List.length (List.take (Int.toNat (↑(List.length l2) : Int) - (1 : Nat)) (List.drop (1 : Nat) l2))) : Int) then (1 : Int) else (↑(List.length (List.take (Int.toNat (↑(List.length l2) : Int) - (1 : Nat)) (List.drop (1 : Nat) l2))) : Int))) (List.drop (Int.toNat (if (1 : Int) < (↑(List.length (List.take (Int.toNat (↑(List.length l2) : Int) - (1 : Nat)) (List.drop (1 : Nat) l2))) : Int) then (1 : Int) else (↑(List.length (List.take (Int.toNat (↑(List.length l2) : Int) - (1 : Nat)) (List.drop (1 : Nat) l2))) : Int))) (List.take (Int.toNat (↑(List.length l2) : Int) - (1 : Nat)) (List.drop (1 : Nat) l2))) : List (List Int))⟩]
          else
            some [⟨tyA, (p0 : A0)⟩, ⟨tyL, (List.take (Int.toNat (↑(List.length (List.take (Int.toNat (↑(List.length l2) : Int) - (1 : Nat)) (List.drop (1 : Nat) l2))) : Int) - Int.toNat (if (1 : Int) < (↑(List.length (List.take (Int.toNat (↑(List.length l2) : Int) - (1 : Nat)) (List.drop (1 : Nat) l2))) : Int) then (1 : Int) else (↑(List.length (List.take (Int.toNat (↑(List.length l2) : Int) - (1 : Nat)) (List.drop (1 : Nat) l2))) : Int))) (List.drop (Int.toNat (if (1 : Int) < (↑(List.length (List.take (Int.toNat (↑(List.length l2) : Int) - (1 : Nat)) (List.drop (1 : Nat) l2))) : Int) then (1 : Int) else (↑(List.length (List.take (Int.toNat (↑(List.length l2) : Int) - (1 : Nat)) (List.drop (1 : Nat) l2))) : Int))) (List.take (Int.toNat (↑(List.length l2) : Int) - (1 : Nat)) (List.drop (1 : Nat) l2))) : List (List Int))⟩]
        else
          bif (List.getD (List.getD l2 (0 : Nat) []) (0 : Nat) (0 : Int) == (2 : Int)) then
            need (decide ((0 : Int) ≤ if (3 : Int) < (↑(List.length (List.take (Int.toNat (↑(List.length l2) : Int) - (1 : Nat)) (List.drop (1 : Nat) l2))) : Int) then (3 : Int) else (↑(List.length (List.take (Int.toNat (↑(List.length l2) : Int) - (1 : Nat)) (List.drop (1 : Nat) l2))) : Int))) <|
            need (decide ((if (3 : Int) < (↑(List.length (List.take (Int.toNat (↑(List.length l2) : Int) - (1 : Nat)) (List.drop (1 : Nat) l2))) : Int) then (3 : Int) else (↑(List.length (List.take (Int.toNat (↑(List.length l2) : Int) - (1 : Nat)) (List.drop (1 : Nat) l2))) : Int)) ≤ (↑(List.length (List.take (Int.toNat (↑(List.length l2) : Int) - (1 : Nat)) (List.drop (1 : Nat) l2))) : Int))) <|
            need (decide ((if (3 : Int) < (↑(List.length (List.take (Int.toNat (↑(List.length l2) : Int) - (1 : Nat)) (List.drop (1 : Nat) l2))) : Int) then (3 : Int) else (↑(List.length (List.take (Int.toNat (↑(List.length l2) : Int) - (1 : Nat)) (List.drop (1 : Nat) l2))) : Int)) ≤ if (3 : Int) < (↑(List.length (List.take (Int.toNat (↑(List.length l2) : Int) - (1 : Nat)) (List.drop (1 : Nat) l2))) : Int) then (3 : Int) else (↑(List.length (List.take (Int.toNat (↑(List.length l2) : Int) - (1 : Nat)) (List.drop (1 : Nat) l2))) : Int))) <|
            need (decide ((if (3 : Int) < (↑(List.length (List.take (Int.toNat (↑(List.length l2) : Int) - (1 : Nat)) (List.drop (1 : Nat) l2))) : Int) then (3 : Int) else (↑(List.length (List.take (Int.toNat (↑(List.length l2) : Int) - (1 : Nat)) (List.drop (1 : Nat) l2))) : Int)) ≤ (↑(List.length (List.take (Int.toNat (↑(List.length l2) : Int) - (1 : Nat)) (List.drop (1 : Nat) l2))) : Int))) <|
            need (decide ((0 : Int) ≤ if (3 : Int) < (↑(List.length (List.take (Int.toNat (↑(List.length l2) : Int) - (1 : Nat)) (List.drop (1 : Nat) l2))) : Int) then (3 : Int) else (↑(List.length (List.take (Int.toNat (↑(List.length l2) : Int) - (1 : Nat)) (List.drop (1 : Nat) l2))) : Int))) <|
            need (decide ((if (3 : Int) < (↑(List.length (List.take (Int.toNat (↑(List.length l2) : Int) - (1 : Nat)) (List.drop (1 : Nat) l2))) : Int) then (3 : Int) else (↑(List.length (List.take (Int.toNat (↑(List.length l2) : Int) - (1 : Nat)) (List.drop (1 : Nat) l2))) : Int)) ≤ (↑(List.length (List.take (Int.toNat (↑(List.length l2) : Int) - (1 : Nat)) (List.drop (1 : Nat) l2))) : Int))) <|
            need (decide ((↑(List.length (List.take (Int.toNat (↑(List.length l2) : Int) - (1 : Nat)) (List.drop (1 : Nat) l2))) : Int) ≤ (↑(List.length (List.take (Int.toNat (↑(List.length l2) : Int) - (1 : Nat)) (List.drop (1 : Nat) l2))) : Int))) <|
            need (decide (List.length (List.take (Int.toNat (if (3 : Int) < (↑(List.length (List.take (Int.toNat (↑(List.length l2) : Int) - (1 : Nat)) (List.drop (1 : Nat) l2))) : Int) then (3 : Int) else (↑(List.length (List.take (Int.toNat (↑(List.length l2) : Int) - (1 : Nat)) (List.drop (1 : Nat) l2))) : Int))) (List.take (Int.toNat (↑(List.length l2) : Int) - (1 : Nat)) (List.drop (1 : Nat) l2))) ≤ (1000000 : Nat))) <|
            need (allB (List.take (Int.toNat (if (3 : Int) < (↑(List.length (List.take (Int.toNat (↑(List.length l2) : Int) - (1 : Nat)) (List.drop (1 : Nat) l2))) : Int) then (3 : Int) else (↑(List.length (List.take (Int.toNat (↑(List.length l2) : Int) - (1 : Nat)) (List.drop (1 : Nat) l2))) : Int))) (List.take (Int.toNat (↑(List.length l2) : Int) - (1 : Nat)) (List.drop (1 : Nat) l2)))) <|
            need (decide ((0 : Int) < (↑(List.length (List.getD l2 (0 : Nat) [])) : Int))) <|
            need (decide ((0 : Nat) < List.length (List.getD l2 (0 : Nat) []))) <|
            bif (Prod.snd (readG (List.take (Int.toNat (if (3 : Int) < (↑(List.length (List.take (Int.toNat (↑(List.length l2) : Int) - (1 : Nat)) (List.drop (1 : Nat) l2))) : Int) then (3 : Int) else (↑(List.length (List.take (Int.toNat (↑(List.length l2) : Int) - (1 : Nat)) (List.drop (1 : Nat) l2))) : Int))) (List.take (Int.toNat (↑(List.length l2) : Int) - (1 : Nat)) (List.drop (1 : Nat) l2)))) && Prod.snd (clF (List.getD (List.getD l2 (0 : Nat) []) (0 : Nat) (0 : Int)) (Prod.fst (readG (List.take (Int.toNat (if (3 : Int) < (↑(List.length (List.take (Int.toNat (↑(List.length l2) : Int) - (1 : Nat)) (List.drop (1 : Nat) l2))) : Int) then (3 : Int) else (↑(List.length (List.take (Int.toNat (↑(List.length l2) : Int) - (1 : Nat)) (List.drop (1 : Nat) l2))) : Int))) (List.take (Int.toNat (↑(List.length l2) : Int) - (1 : Nat)) (List.drop (1 : Nat) l2))))))) then
              bif (n1 == (38 : Int)) then
                some [⟨tyA, ((Prod.fst (clF (List.getD (List.getD l2 (0 : Nat) []) (0 : Nat) (0 : Int)) (Prod.fst (readG (List.take (Int.toNat (if (3 : Int) < (↑(List.length (List.take (Int.toNat (↑(List.length l2) : Int) - (1 : Nat)) (List.drop (1 : Nat) l2))) : Int) then (3 : Int) else (↑(List.length (List.take (Int.toNat (↑(List.length l2) : Int) - (1 : Nat)) (List.drop (1 : Nat) l2))) : Int))) (List.take (Int.toNat (↑(List.length l2) : Int) - (1 : Nat)) (List.drop (1 : Nat) l2)))))), Prod.snd p0) : A0)⟩, ⟨tyL, (List.take (Int.toNat (↑(List.length (List.take (Int.toNat (↑(List.length l2) : Int) - (1 : Nat)) (List.drop (1 : Nat) l2))) : Int) - Int.toNat (if (3 : Int) < (↑(List.length (List.take (Int.toNat (↑(List.length l2) : Int) - (1 : Nat)) (List.drop (1 : Nat) l2))) : Int) then (3 : Int) else (↑(List.length (List.take (Int.toNat (↑(List.length l2) : Int) - (1 : Nat)) (List.drop (1 : Nat) l2))) : Int))) (List.drop (Int.toNat (if (3 : Int) < (↑(List.length (List.take (Int.toNat (↑(List.length l2) : Int) - (1 : Nat)) (List.drop (1 : Nat) l2))) : Int) then (3 : Int) else (↑(List.length (List.take (Int.toNat (↑(List.length l2) : Int) - (1 : Nat)) (List.drop (1 : Nat) l2))) : Int))) (List.take (Int.toNat (↑(List.length l2) : Int) - (1 : Nat)) (List.drop (1 : Nat) l2))) : List (List Int))⟩]
              else
                some [⟨tyA, ((Prod.fst p0, Prod.fst (clF (List.getD (List.getD l2 (0 : Nat) []) (0 : Nat) (0 : Int)) (Prod.fst (readG (List.take (Int.toNat (if (3 : Int) < (↑(List.length (List.take (Int.toNat (↑(List.length l2) : Int) - (1 : Nat)) (List.drop (1 : Nat) l2))) : Int) then (3 : Int) else (↑(List.length (List.take (Int.toNat (↑(List.length l2) : Int) - (1 : Nat)) (List.drop (1 : Nat) l2))) : Int))) (List.take (Int.toNat (↑(List.length l2) : Int) - (1 : Nat)) (List.drop (1 : Nat) l2)))))), Prod.snd (Prod.snd p0)) : A0)⟩, ⟨tyL, (List.take (Int.toNat (↑(List.length (List.take (Int.toNat (↑(List.length l2) : Int) - (1 : Nat)) (List.drop (1 : Nat) l2))) : Int) - Int.toNat (if (3 : Int) < (↑(List.length (List.take (Int.toNat (↑(List.length l2) : Int) - (1 : Nat)) (List.drop (1 : Nat) l2))) : Int) then (3 : Int) else (↑(List.length (List.take (Int.toNat (↑(List.length l2) : Int) - (1 : Nat)) (List.drop (1 : Nat) l2))) : Int))) (List.drop (Int.toNat (if (3 : Int) < (↑(List.length (List.take (Int.toNat (↑(List.length l2) : Int) - (1 : Nat)) (List.drop (1 : Nat) l2))) : Int) then (3 : Int) else (↑(List.length (List.take (Int.toNat (↑(List.length l2) : Int) - (1 : Nat)) (List.drop (1 : Nat) l2))) : Int))) (List.take (Int.toNat (↑(List.length l2) : Int) - (1 : Nat)) (List.drop (1 : Nat) l2))) : List (List Int))⟩]
            else
              some [⟨tyA, (p0 : A0)⟩, ⟨tyL, (List.take (Int.toNat (↑(List.length (List.take (Int.toNat (↑(List.length l2) : Int) - (1 : Nat)) (List.drop (1 : Nat) l2))) : Int) - Int.toNat (if (3 : Int) < (↑(List.length (List.take (Int.toNat (↑(List.length l2) : Int) - (1 : Nat)) (List.drop (1 : Nat) l2))) : Int) then (3 : Int) else (↑(List.length (List.take (Int.toNat (↑(List.length l2) : Int) - (1 : Nat)) (List.drop (1 : Nat) l2))) : Int))) (List.drop (Int.toNat (if (3 : Int) < (↑(List.length (List.take (Int.toNat (↑(List.length l2) : Int) - (1 : Nat)) (List.drop (1 : Nat) l2))) : Int) then (3 : Int) else (↑(List.length (List.take (Int.toNat (↑(List.length l2) : Int) - (1 : Nat)) (List.drop (1 : Nat) l2))) : Int))) (List.take (Int.toNat (↑(List.length l2) : Int) - (1 : Nat)) (List.drop (1 : Nat) l2))) : List (List Int))⟩]
          else
            need (decide ((0 : Int) ≤ if (0 : Int) < (↑(List.length (List.take (Int.toNat (↑(List.length l2) : Int) - (1 : Nat)) (List.drop (1 : Nat) l2))) : Int) then (0 : Int) else (↑(List.length (List.take (Int.toNat (↑(List.length l2) : Int) - (1 : Nat)) (List.drop (1 : Nat) l2))) : Int))) <|
            need (decide ((if (0 : Int) < (↑(List.length (List.take (Int.toNat (↑(List.length l2) : Int) - (1 : Nat)) (List.drop (1 : Nat) l2))) : Int) then (0 : Int) else (↑(List.length (List.take (Int.toNat (↑(List.length l2) : Int) - (1 : Nat)) (List.drop (1 : Nat) l2))) : Int)) ≤ (↑(List.length (List.take (Int.toNat (↑(List.length l2) : Int) - (1 : Nat)) (List.drop (1 : Nat) l2))) : Int))) <|
            need (decide ((if (0 : Int) < (↑(List.length (List.take (Int.toNat (↑(List.length l2) : Int) - (1 : Nat)) (List.drop (1 : Nat) l2))) : Int) then (0 : Int) else (↑(List.length (List.take (Int.toNat (↑(List.length l2) : Int) - (1 : Nat)) (List.drop (1 : Nat) l2))) : Int)) ≤ if (0 : Int) < (↑(List.length (List.take (Int.toNat (↑(List.length l2) : Int) - (1 : Nat)) (List.drop (1 : Nat) l2))) : Int) then (0 : Int) else (↑(List.length (List.take (Int.toNat (↑(List.length l2) : Int) - (1 : Nat)) (List.drop (1 : Nat) l2))) : Int))) <|
            need (decide ((if (0 : Int) < (↑(List.length (List.take (Int.toNat (↑(List.length l2) : Int) - (1 : Nat)) (List.drop (1 : Nat) l2))) : Int) then (0 : Int) else (↑(List.length (List.take (Int.toNat (↑(List.length l2) : Int) - (1 : Nat)) (List.drop (1 : Nat) l2))) : Int)) ≤ (↑(List.length (List.take (Int.toNat (↑(List.length l2) : Int) - (1 : Nat)) (List.drop (1 : Nat) l2))) : Int))) <|
            need (decide ((0 : Int) ≤ if (0 : Int) < (↑(List.length (List.take (Int.toNat (↑(List.length l2) : Int) - (1 : Nat)) (List.drop (1 : Nat) l2))) : Int) then (0 : Int) else (↑(List.length (List.take (Int.toNat (↑(List.length l2) : Int) - (1 : Nat)) (List.drop (1 : Nat) l2))) : Int))) <|
            need (decide ((if (0 : Int) < (↑(List.length (List.take (Int.toNat (↑(List.length l2) : Int) - (1 : Nat)) (List.drop (1 : Nat) l2))) : Int) then (0 : Int) else (↑(List.length (List.take (Int.toNat (↑(List.length l2) : Int) - (1 : Nat)) (List.drop (1 : Nat) l2))) : Int)) ≤ (↑(List.length (List.take (Int.toNat (↑(List.length l2) : Int) - (1 : Nat)) (List.drop (1 : Nat) l2))) : Int))) <|
            need (decide ((↑(List.length (List.take (Int.toNat (↑(List.length l2) : Int) - (1 : Nat)) (List.drop (1 : Nat) l2))) : Int) ≤ (↑(List.length (List.take (Int.toNat (↑(List.length l2) : Int) - (1 : Nat)) (List.drop (1 : Nat) l2))) : Int))) <|
            need (decide (List.length (List.take (Int.toNat (if (0 : Int) < (↑(List.length (List.take (Int.toNat (↑(List.length l2) : Int) - (1 : Nat)) (List.drop (1 : Nat) l2))) : Int) then (0 : Int) else (↑(List.length (List.take (Int.toNat (↑(List.length l2) : Int) - (1 : Nat)) (List.drop (1 : Nat) l2))) : Int))) (List.take (Int.toNat (↑(List.length l2) : Int) - (1 : Nat)) (List.drop (1 : Nat) l2))) ≤ (1000000 : Nat))) <|
            need (allB (List.take (Int.toNat (if (0 : Int) < (↑(List.length (List.take (Int.toNat (↑(List.length l2) : Int) - (1 : Nat)) (List.drop (1 : Nat) l2))) : Int) then (0 : Int) else (↑(List.length (List.take (Int.toNat (↑(List.length l2) : Int) - (1 : Nat)) (List.drop (1 : Nat) l2))) : Int))) (List.take (Int.toNat (↑(List.length l2) : Int) - (1 : Nat)) (List.drop (1 : Nat) l2)))) <|
            need (decide ((0 : Int) < (↑(List.length (List.getD l2 (0 : Nat) [])) : Int))) <|
            need (decide ((0 : Nat) < List.length (List.getD l2 (0 : Nat) []))) <|
            bif (Prod.snd (readG (List.take (Int.toNat (if (0 : Int) < (↑(List.length (List.take (Int.toNat (↑(List.length l2) : Int) - (1 : Nat)) (List.drop (1 : Nat) l2))) : Int) then (0 : Int) else (↑(List.length (List.take (Int.toNat (↑(List.length l2) : Int) - (1 : Nat)) (List.drop (1 : Nat) l2))) : Int))) (List.take (Int.toNat (↑(List.length l2) : Int) - (1 : Nat)) (List.drop (1 : Nat) l2)))) && Prod.snd (clF (List.getD (List.getD l2 (0 : Nat) []) (0 : Nat) (0 : Int)) (Prod.fst (readG (List.take (Int.toNat (if (0 : Int) < (↑(List.length (List.take (Int.toNat (↑(List.length l2) : Int) - (1 : Nat)) (List.drop (1 : Nat) l2))) : Int) then (0 : Int) else (↑(List.length (List.take (Int.toNat (↑(List.length l2) : Int) - (1 : Nat)) (List.drop (1 : Nat) l2))) : Int))) (List.take (Int.toNat (↑(List.length l2) : Int) - (1 : Nat)) (List.drop (1 : Nat) l2))))))) then
              bif (n1 == (38 : Int)) then
                some [⟨tyA, ((Prod.fst (clF (List.getD (List.getD l2 (0 : Nat) []) (0 : Nat) (0 : Int)) (Prod.fst (readG (List.take (Int.toNat (if (0 : Int) < (↑(List.length (List.take (Int.toNat (↑(List.length l2) : Int) - (1 : Nat)) (List.drop (1 : Nat) l2))) : Int) then (0 : Int) else (↑(List.length (List.take (Int.toNat (↑(List.length l2) : Int) - (1 : Nat)) (List.drop (1 : Nat) l2))) : Int))) (List.take (Int.toNat (↑(List.length l2) : Int) - (1 : Nat)) (List.drop (1 : Nat) l2)))))), Prod.snd p0) : A0)⟩, ⟨tyL, (List.take (Int.toNat (↑(List.length (List.take (Int.toNat (↑(List.length l2) : Int) - (1 : Nat)) (List.drop (1 : Nat) l2))) : Int) - Int.toNat (if (0 : Int) < (↑(List.length (List.take (Int.toNat (↑(List.length l2) : Int) - (1 : Nat)) (List.drop (1 : Nat) l2))) : Int) then (0 : Int) else (↑(List.length (List.take (Int.toNat (↑(List.length l2) : Int) - (1 : Nat)) (List.drop (1 : Nat) l2))) : Int))) (List.drop (Int.toNat (if (0 : Int) < (↑(List.length (List.take (Int.toNat (↑(List.length l2) : Int) - (1 : Nat)) (List.drop (1 : Nat) l2))) : Int) then (0 : Int) else (↑(List.length (List.take (Int.toNat (↑(List.length l2) : Int) - (1 : Nat)) (List.drop (1 : Nat) l2))) : Int))) (List.take (Int.toNat (↑(List.length l2) : Int) - (1 : Nat)) (List.drop (1 : Nat) l2))) : List (List Int))⟩]
              else
                some [⟨tyA, ((Prod.fst p0, Prod.fst (clF (List.getD (List.getD l2 (0 : Nat) []) (0 : Nat) (0 : Int)) (Prod.fst (readG (List.take (Int.toNat (if (0 : Int) < (↑(List.length (List.take (Int.toNat (↑(List.length l2) : Int) - (1 : Nat)) (List.drop (1 : Nat) l2))) : Int) then (0 : Int) else (↑(List.length (List.take (Int.toNat (↑(List.length l2) : Int) - (1 : Nat)) (List.drop (1 : Nat) l2))) : Int))) (List.take (Int.toNat (↑(List.length l2) : Int) - (1 : Nat)) (List.drop (1 : Nat) l2)))))), Prod.snd (Prod.snd p0)) : A0)⟩, ⟨tyL, (List.take (Int.toNat (↑(List.length (List.take (Int.toNat (↑(List.length l2) : Int) - (1 : Nat)) (List.drop (1 : Nat) l2))) : Int) - Int.toNat (if (0 : Int) < (↑(List.length (List.take (Int.toNat (↑(List.length l2) : Int) - (1 : Nat)) (List.drop (1 : Nat) l2))) : Int) then (0 : Int) else (↑(List.length (List.take (Int.toNat (↑(List.length l2) : Int) - (1 : Nat)) (List.drop (1 : Nat) l2))) : Int))) (List.drop (Int.toNat (if (0 : Int) < (↑(List.length (List.take (Int.toNat (↑(List.length l2) : Int) - (1 : Nat)) (List.drop (1 : Nat) l2))) : Int) then (0 : Int) else (↑(List.length (List.take (Int.toNat (↑(List.length l2) : Int) - (1 : Nat)) (List.drop (1 : Nat) l2))) : Int))) (List.take (Int.toNat (↑(List.length l2) : Int) - (1 : Nat)) (List.drop (1 : Nat) l2))) : List (List Int))⟩]
            else
              some [⟨tyA, (p0 : A0)⟩, ⟨tyL, (List.take (Int.toNat (↑(List.length (List.take (Int.toNat (↑(List.length l2) : Int) - (1 : Nat)) (List.drop (1 : Nat) l2))) : Int) - Int.toNat (if (0 : Int) < (↑(List.length (List.take (Int.toNat (↑(List.length l2) : Int) - (1 : Nat)) (List.drop (1 : Nat) l2))) : Int) then (0 : Int) else (↑(List.length (List.take (Int.toNat (↑(List.length l2) : Int) - (1 : Nat)) (List.drop (1 : Nat) l2))) : Int))) (List.drop (Int.toNat (if (0 : Int) < (↑(List.length (List.take (Int.toNat (↑(List.length l2) : Int) - (1 : Nat)) (List.drop (1 : Nat) l2))) : Int) then (0 : Int) else (↑(List.length (List.take (Int.toNat (↑(List.length l2) : Int) - (1 : Nat)) (List.drop (1 : Nat) l2))) : Int))) (List.take (Int.toNat (↑(List.length l2) : Int) - (1 : Nat)) (List.drop (1 : Nat) l2))) : List (List Int))⟩]) := by kernel_rfl

end Go.Proofs.YthmmpfaghmoenaaDoor

namespace Go.Proofs.YthmmpfaghmoenaaDoor
open Go Go.Am

def kindN (k : Int) : Nat := if k = 5 then 1 else if k = 2 then 3 else 0
def behF (a : A0) (w : Int) (l : List (List Int)) : A0 × List (List Int) :=
  match l with
  | [] => (a, [])
  | kind :: rest => if kind.length = 1 then (colF a w (kind.getD 0 0) (readG (rest.take (kindN (kind.getD 0 0)))), rest.drop (kindN (kind.getD 0 0))) else (a, rest)

theorem behF_cons (a : A0) (w : Int) (kind : List Int) (rest : List (List Int)) : behF a w (kind :: rest) = if kind.length = 1 then (colF a w (kind.getD 0 0) (readG (rest.take (kindN (kind.getD 0 0)))), rest.drop (kindN (kind.getD 0 0))) else (a, rest) := rfl
theorem takeL (l : List (List Int)) (k : Nat) : List.take (Int.toNat (l.length : Int) - k) (List.drop k l) = l.drop k := List.take_of_length_le (by simp)
theorem mtake (l : List (List Int)) {i : Int} (m : Nat) (h : i = m) : List.take (Int.toNat (if i < (l.length : Int) then i else (l.length : Int))) l = l.take m := by
  subst h
  split
  · rfl
  · rw [Int.toNat_natCast, List.take_of_length_le (Nat.le_refl _), List.take_of_length_le (by omega)]
theorem mdrop (l : List (List Int)) {i : Int} (m : Nat) (h : i = m) : List.drop (Int.toNat (if i < (l.length : Int) then i else (l.length : Int))) l = l.drop m := by
  subst h
  split
  · rfl
  · rw [Int.toNat_natCast, List.drop_of_length_le (Nat.le_refl _), List.drop_of_length_le (by omega)]

theorem tail2_ok (w k : Int) (r : List UInt8 × Bool) (a : A0) (rest : List (List Int)) {x y u : Option (List Dy)} (hx : x = some [⟨tyA, (((clF k r.1).1, a.2.1, a.2.2.1, ()) : A0)⟩, ⟨.list 36 (.list 3 (.int .i64)), rest⟩]) (hy : y = some [⟨tyA, ((a.1, (clF k r.1).1, a.2.2.1, ()) : A0)⟩, ⟨.list 36 (.list 3 (.int .i64)), rest⟩])
    (hu : u = some [⟨tyA, a⟩, ⟨.list 36 (.list 3 (.int .i64)), rest⟩]) : (bif (r.2 && (clF k r.1).2) then (bif w == 38 then x else y) else u) = some [⟨tyA, colF a w k r⟩, ⟨.list 36 (.list 3 (.int .i64)), rest⟩] := by
  subst hx hy hu
  unfold colF toF
  cases r.2 with
  | false => simp
  | true =>
    cases (clF k r.1).2 with
    | false => simp
    | true =>
      by_cases e : w = 38
      · subst e; simp
      · have e2 : (w == 38) = false := by simpa using e
        simp [e, e2]

theorem allB_drop {l : List (List Int)} (h : allB l = true) (k : Nat) : allB (l.drop k) = true := List.all_eq_true.2 fun x hx => List.all_eq_true.1 h x (List.mem_of_mem_drop hx)
theorem allB_take {l : List (List Int)} (h : allB l = true) (k : Nat) : allB (l.take k) = true := List.all_eq_true.2 fun x hx => List.all_eq_true.1 h x (List.mem_of_mem_take hx)

theorem bh_ok (a : A0) (w : Int) (l : List (List Int)) (hl : l.length ≤ 1000000) (hb : allB l = true) : ∃ n, fnY SBh loopY [.hole tyA, .hole (.int .i64), .hole (.list 36 (.list 3 (.int .i64)))] [tyA, .list 36 (.list 3 (.int .i64))] n 31 [⟨tyA, a⟩, ⟨.int .i64, w⟩, ⟨.list 36 (.list 3 (.int .i64)), l⟩] = some [⟨tyA, (behF a w l).1⟩, ⟨.list 36 (.list 3 (.int .i64)), (behF a w l).2⟩] := by
  refine ⟨0, ?_⟩
  rw [Bh_fn]
  cases l with
  | nil => exact bp rfl rfl
  | cons kind rest =>
    simp only [takeL]
    simp only [List.getD_cons_zero, List.drop_succ_cons, List.drop_zero]
    rw [mtake rest (i := (1 : Int)) 1 rfl, mtake rest (i := (3 : Int)) 3 rfl, mtake rest (i := (0 : Int)) 0 rfl, mdrop rest (i := (1 : Int)) 1 rfl, mdrop rest (i := (3 : Int)) 3 rfl, mdrop rest (i := (0 : Int)) 0 rfl]
    have hlen : (kind :: rest).length = rest.length + 1 := rfl
    have hr : rest.length ≤ 1000000 := by omega
    have hbr : allB rest = true := allB_drop hb 1
    refine bn (by simp [hlen]; omega) (nd (by omega) (nd (by omega) (nd (by omega) (nd (by omega) ?_))))
    rw [behF_cons]
    by_cases e : kind.length = 1
    · rw [if_pos e]
      refine bn (by simp [e]) (nd (by omega) (nd (by omega) ?_))
      by_cases e5 : kind.getD 0 0 = 5
      · refine bp (by rw [e5]; rfl) ?_
        rw [show kindN (kind.getD 0 0) = 1 by rw [e5]; rfl]
        refine nd (by split <;> omega) (nd (by split <;> omega) (nd (by split <;> omega) (nd (by split <;> omega) (nd (by split <;> omega) (nd (by split <;> omega) (nd (by omega) (nd (by simp; omega) (np (allB_take hbr _) (nd (by omega) (nd (by omega) ?_))))))))))
        exact tail2_ok _ _ _ _ _ rfl rfl rfl
      · refine bn (by simpa [-List.getD_eq_getElem?_getD] using e5) ?_
        by_cases e2 : kind.getD 0 0 = 2
        · refine bp (by rw [e2]; rfl) ?_
          rw [show kindN (kind.getD 0 0) = 3 by rw [e2]; rfl]
          refine nd (by split <;> omega) (nd (by split <;> omega) (nd (by split <;> omega) (nd (by split <;> omega) (nd (by split <;> omega) (nd (by split <;> omega) (nd (by omega) (nd (by simp; omega) (np (allB_take hbr _) (nd (by omega) (nd (by omega) ?_))))))))))
          exact tail2_ok _ _ _ _ _ rfl rfl rfl
        · refine bn (by simpa [-List.getD_eq_getElem?_getD] using e2) ?_
          rw [show kindN (kind.getD 0 0) = 0 by unfold kindN; rw [if_neg e5, if_neg e2]]
          refine nd (by split <;> omega) (nd (by split <;> omega) (nd (by split <;> omega) (nd (by split <;> omega) (nd (by split <;> omega) (nd (by split <;> omega) (nd (by omega) (nd (by simp) (np (allB_take hbr _) (nd (by omega) (nd (by omega) ?_))))))))))
          exact tail2_ok _ _ _ _ _ rfl rfl rfl
    · rw [if_neg e]
      exact bp (by simp; omega) rfl

def cBh : Ctr := ctr3 tyA (.int .i64) (.list 36 (.list 3 (.int .i64))) [tyA, .list 36 (.list 3 (.int .i64))] (fun _ _ (l : List (List Int)) => [decide (l.length ≤ 1000000), allB l]) fun (a : A0) (w : Int) (l : List (List Int)) => [⟨tyA, (behF a w l).1⟩, ⟨.list 36 (.list 3 (.int .i64)), (behF a w l).2⟩]
theorem cBh_ok : CtrOk EP 31 cBh := ctr3_ok (S := SBh) (t := tyA) (u := .int .i64) (w := .list 36 (.list 3 (.int .i64))) (S_ok c4_ok m2_ok) (fun _ => rfl) rfl fun (a : A0) (w : Int) (l : List (List Int)) h => by
  simp only [List.all_cons, id, decide_eq_true_eq, List.all_nil, Bool.and_true, Bool.and_eq_true] at h
  exact bh_ok a w l h.1 h.2
def c5 : FuncId → List Ctr := addCtr c4 31 cBh
theorem c5_ok : ∀ g ct, ct ∈ c5 g → CtrOk EP g ct := addCtr_ok c4_ok cBh_ok
end Go.Proofs.YthmmpfaghmoenaaDoor

namespace Go.Proofs.YthmmpfaghmoenaaDoor
open Go Go.Am
set_option linter.unusedVariables false
def Sg_T0 : Tm := { tmps := [(5, (.same (.map 2))), (4, (.ptr 1 0)), (2, (.ptr 0 0)), (1, (.hole tyL))], objs := [.cells [(.hole (.int .u8)), (.hole (.int .u8)), (.hole (.int .u8)), (.hole (.int .u8)), (.hole (.int .u8)), (.hole (.int .u8)), (.hole (.int .u8)), (.hole (.int .u8)), (.hole (.int .u16))] 31 true, .same (.cells [(.v (.int .u8 0)), (.v (.int .u8 0)), (.v (.int .u8 0)), (.v (.int .u8 0)), (.v (.int .u8 0)), (.v (.int .u8 0)), (.v (.int .u8 0)), (.v (.int .u8 0)), (.v (.int .u16 0))] 31 true), .same (.mp [((.int .i64 0), (.func 49 [] [])), ((.int .i64 22), (.func 48 [] [(.ptr 4 0), (.ptr 5 0)])), ((.int .i64 39), (.func 64 [] [(.ptr 6 0), (.ptr 7 0)])), ((.int .i64 49), (.func 64 [] [(.ptr 8 0), (.ptr 9 0)])), ((.int .i64 1), (.func 48 [] [(.ptr 11 0), (.ptr 12 0)])), ((.int .i64 2), (.func 48 [] [(.ptr 14 0), (.ptr 15 0)])), ((.int .i64 3), (.func 48 [] [(.ptr 17 0), (.ptr 18 0)])), ((.int .i64 23), (.func 48 [] [(.ptr 20 0), (.ptr 21 0)])), ((.int .i64 4), (.func 48 [] [(.ptr 56 0), (.ptr 57 0)])), ((.int .i64 24), (.func 48 [] [(.ptr 62 0), (.ptr 63 0)])), ((.int .i64 5), (.func 48 [] [(.ptr 29 0), (.ptr 30 0)])), ((.int .i64 25), (.func 48 [] [(.ptr 32 0), (.ptr 33 0)])), ((.int .i64 7), (.func 48 [] [(.ptr 35 0), (.ptr 36 0)])), ((.int .i64 27), (.func 48 [] [(.ptr 38 0), (.ptr 39 0)])), ((.int .i64 8), (.func 48 [] [(.ptr 41 0), (.ptr 42 0)])), ((.int .i64 28), (.func 48 [] [(.ptr 44 0), (.ptr 45 0)])), ((.int .i64 9), (.func 48 [] [(.ptr 47 0), (.ptr 48 0)])), ((.int .i64 29), (.func 48 [] [(.ptr 50 0), (.ptr 51 0)])), ((.int .i64 21), (.func 48 [] [(.ptr 59 0), (.ptr 60 0)])), ((.int .i64 30), (.func 64 [] [(.ptr 66 0), (.ptr 67 0)])), ((.int .i64 90), (.func 64 [] [(.ptr 68 0), (.ptr 69 0)])), ((.int .i64 40), (.func 64 [] [(.ptr 70 0), (.ptr 71 0)])), ((.int .i64 100), (.func 64 [] [(.ptr 72 0), (.ptr 73 0)])), ((.int .i64 31), (.func 64 [] [(.ptr 76 0), (.ptr 77 0)])), ((.int .i64 91), (.func 64 [] [(.ptr 78 0), (.ptr 79 0)])), ((.int .i64 41), (.func 64 [] [(.ptr 80 0), (.ptr 81 0)])), ((.int .i64 101), (.func 64 [] [(.ptr 82 0), (.ptr 83 0)])), ((.int .i64 32), (.func 64 [] [(.ptr 86 0), (.ptr 87 0)])), ((.int .i64 92), (.func 64 [] [(.ptr 88 0), (.ptr 89 0)])), ((.int .i64 42), (.func 64 [] [(.ptr 90 0), (.ptr 91 0)])), ((.int .i64 102), (.func 64 [] [(.ptr 92 0), (.ptr 93 0)])), ((.int .i64 33), (.func 64 [] [(.ptr 96 0), (.ptr 97 0)])), ((.int .i64 93), (.func 64 [] [(.ptr 98 0), (.ptr 99 0)])), ((.int .i64 43), (.func 64 [] [(.ptr 100 0), (.ptr 101 0)])), ((.int .i64 103), (.func 64 [] [(.ptr 102 0), (.ptr 103 0)])), ((.int .i64 34), (.func 64 [] [(.ptr 106 0), (.ptr 107 0)])), ((.int .i64 94), (.func 64 [] [(.ptr 108 0), (.ptr 109 0)])), ((.int .i64 44), (.func 64 [] [(.ptr 110 0), (.ptr 111 0)])), ((.int .i64 104), (.func 64 [] [(.ptr 112 0), (.ptr 113 0)])), ((.int .i64 35), (.func 64 [] [(.ptr 116 0), (.ptr 117 0)])), ((.int .i64 95), (.func 64 [] [(.ptr 118 0), (.ptr 119 0)])), ((.int .i64 45), (.func 64 [] [(.ptr 120 0), (.ptr 121 0)])), ((.int .i64 105), (.func 64 [] [(.ptr 122 0), (.ptr 123 0)])), ((.int .i64 36), (.func 64 [] [(.ptr 126 0), (.ptr 127 0)])), ((.int .i64 96), (.func 64 [] [(.ptr 128 0), (.ptr 129 0)])), ((.int .i64 46), (.func 64 [] [(.ptr 130 0), (.ptr 131 0)])), ((.int .i64 106), (.func 64 [] [(.ptr 132 0), (.ptr 133 0)])), ((.int .i64 37), (.func 64 [] [(.ptr 136 0), (.ptr 137 0)])), ((.int .i64 97), (.func 64 [] [(.ptr 138 0), (.ptr 139 0)])), ((.int .i64 47), (.func 64 [] [(.ptr 140 0), (.ptr 141 0)])), ((.int .i64 107), (.func 64 [] [(.ptr 142 0), (.ptr 143 0)]))]), .dead, .same (.cells [(.v (.int .u16 0))] 22 true), .same (.cells [(.frz 22 (.int .u16) ([1, 2] : List Int))] 51 true), .same (.cells [(.v (.int .i64 38))] 3 true), .same (.cells [(.v (.int .u8 0)), (.v (.int .u8 0)), (.v (.int .u8 0)), (.v (.int .u8 0))] 29 true), .same (.cells [(.v (.int .i64 48))] 3 true), .same (.cells [(.v (.int .u8 0)), (.v (.int .u8 0)), (.v (.int .u8 0)), (.v (.int .u8 0))] 29 true), .dead, .same (.cells [(.v (.int .u16 1))] 22 true), .same (.cells [(.frz 22 (.int .u16) ([] : List Int))] 51 true), .dead, .same (.cells [(.v (.int .u16 2))] 22 true), .same (.cells [(.frz 22 (.int .u16) ([] : List Int))] 51 true), .dead, .same (.cells [(.v (.int .u16 4))] 22 true), .same (.cells [(.frz 22 (.int .u16) ([] : List Int))] 51 true), .dead, .same (.cells [(.v (.int .u16 0))] 22 true), .same (.cells [(.frz 22 (.int .u16) ([4] : List Int))] 51 true), .dead, .dead, .dead, .dead, .dead, .dead, .dead, .same (.cells [(.v (.int .u16 16))] 22 true), .same (.cells [(.frz 22 (.int .u16) ([] : List Int))] 51 true), .dead, .same (.cells [(.v (.int .u16 0))] 22 true), .same (.cells [(.frz 22 (.int .u16) ([16] : List Int))] 51 true), .dead, .same (.cells [(.v (.int .u16 32))] 22 true), .same (.cells [(.frz 22 (.int .u16) ([] : List Int))] 51 true), .dead, .same (.cells [(.v (.int .u16 0))] 22 true), .same (.cells [(.frz 22 (.int .u16) ([32] : List Int))] 51 true), .dead, .same (.cells [(.v (.int .u16 64))] 22 true), .same (.cells [(.frz 22 (.int .u16) ([] : List Int))] 51 true), .dead, .same (.cells [(.v (.int .u16 0))] 22 true), .same (.cells [(.frz 22 (.int .u16) ([64] : List Int))] 51 true), .dead, .same (.cells [(.v (.int .u16 128))] 22 true), .same (.cells [(.frz 22 (.int .u16) ([] : List Int))] 51 true), .dead, .same (.cells [(.v (.int .u16 0))] 22 true), .same (.cells [(.frz 22 (.int .u16) ([128] : List Int))] 51 true), .dead, .dead, .dead, .dead, .same (.cells [(.v (.int .u16 8))] 22 true), .same (.cells [(.frz 22 (.int .u16) ([264] : List Int))] 51 true), .dead, .same (.cells [(.v (.int .u16 256))] 22 true), .same (.cells [(.frz 22 (.int .u16) ([264] : List Int))] 51 true), .dead, .same (.cells [(.v (.int .u16 0))] 22 true), .same (.cells [(.frz 22 (.int .u16) ([264] : List Int))] 51 true), .dead, .dead, .same (.cells [(.v (.int .i64 38))] 3 true), .same (.cells [(.v (.int .u8 1)), (.v (.int .u8 0)), (.v (.int .u8 0)), (.v (.int .u8 0))] 29 true), .same (.cells [(.v (.int .i64 38))] 3 true), .same (.cells [(.v (.int .u8 1)), (.v (.int .u8 8)), (.v (.int .u8 0)), (.v (.int .u8 0))] 29 true), .same (.cells [(.v (.int .i64 48))] 3 true), .same (.cells [(.v (.int .u8 1)), (.v (.int .u8 0)), (.v (.int .u8 0)), (.v (.int .u8 0))] 29 true), .same (.cells [(.v (.int .i64 48))] 3 true), .same (.cells [(.v (.int .u8 1)), (.v (.int .u8 8)), (.v (.int .u8 0)), (.v (.int .u8 0))] 29 true), .dead, .dead, .same (.cells [(.v (.int .i64 38))] 3 true), .same (.cells [(.v (.int .u8 1)), (.v (.int .u8 1)), (.v (.int .u8 0)), (.v (.int .u8 0))] 29 true), .same (.cells [(.v (.int .i64 38))] 3 true), .same (.cells [(.v (.int .u8 1)), (.v (.int .u8 9)), (.v (.int .u8 0)), (.v (.int .u8 0))] 29 true), .same (.cells [(.v (.int .i64 48))] 3 true), .same (.cells [(.v (.int .u8 1)), (.v (.int .u8 1)), (.v (.int .u8 0)), (.v (.int .u8 0))] 29 true), .same (.cells [(.v (.int .i64 48))] 3 true), .same (.cells [(.v (.int .u8 1)), (.v (.int .u8 9)), (.v (.int .u8 0)), (.v (.int .u8 0))] 29 true), .dead, .dead, .same (.cells [(.v (.int .i64 38))] 3 true), .same (.cells [(.v (.int .u8 1)), (.v (.int .u8 2)), (.v (.int .u8 0)), (.v (.int .u8 0))] 29 true), .same (.cells [(.v (.int .i64 38))] 3 true), .same (.cells [(.v (.int .u8 1)), (.v (.int .u8 10)), (.v (.int .u8 0)), (.v (.int .u8 0))] 29 true), .same (.cells [(.v (.int .i64 48))] 3 true), .same (.cells [(.v (.int .u8 1)), (.v (.int .u8 2)), (.v (.int .u8 0)), (.v (.int .u8 0))] 29 true), .same (.cells [(.v (.int .i64 48))] 3 true), .same (.cells [(.v (.int .u8 1)), (.v (.int .u8 10)), (.v (.int .u8 0)), (.v (.int .u8 0))] 29 true), .dead, .dead, .same (.cells [(.v (.int .i64 38))] 3 true), .same (.cells [(.v (.int .u8 1)), (.v (.int .u8 3)), (.v (.int .u8 0)), (.v (.int .u8 0))] 29 true), .same (.cells [(.v (.int .i64 38))] 3 true), .same (.cells [(.v (.int .u8 1)), (.v (.int .u8 11)), (.v (.int .u8 0)), (.v (.int .u8 0))] 29 true), .same (.cells [(.v (.int .i64 48))] 3 true), .same (.cells [(.v (.int .u8 1)), (.v (.int .u8 3)), (.v (.int .u8 0)), (.v (.int .u8 0))] 29 true), .same (.cells [(.v (.int .i64 48))] 3 true), .same (.cells [(.v (.int .u8 1)), (.v (.int .u8 11)), (.v (.int .u8 0)), (.v (.int .u8 0))] 29 true), .dead, .dead, .same (.cells [(.v (.int .i64 38))] 3 true), .same (.cells [(.v (.int .u8 1)), (.v (.int .u8 4)), (.v (.int .u8 0)), (.v (.int .u8 0))] 29 true), .same (.cells [(.v (.int .i64 38))] 3 true), .same (.cells [(.v (.int .u8 1)), (.v (.int .u8 12)), (.v (.int .u8 0)), (.v (.int .u8 0))] 29 true), .same (.cells [(.v (.int .i64 48))] 3 true), .same (.cells [(.v (.int .u8 1)), (.v (.int .u8 4)), (.v (.int .u8 0)), (.v (.int .u8 0))] 29 true), .same (.cells [(.v (.int .i64 48))] 3 true), .same (.cells [(.v (.int .u8 1)), (.v (.int .u8 12)), (.v (.int .u8 0)), (.v (.int .u8 0))] 29 true), .dead, .dead, .same (.cells [(.v (.int .i64 38))] 3 true), .same (.cells [(.v (.int .u8 1)), (.v (.int .u8 5)), (.v (.int .u8 0)), (.v (.int .u8 0))] 29 true), .same (.cells [(.v (.int .i64 38))] 3 true), .same (.cells [(.v (.int .u8 1)), (.v (.int .u8 13)), (.v (.int .u8 0)), (.v (.int .u8 0))] 29 true), .same (.cells [(.v (.int .i64 48))] 3 true), .same (.cells [(.v (.int .u8 1)), (.v (.int .u8 5)), (.v (.int .u8 0)), (.v (.int .u8 0))] 29 true), .same (.cells [(.v (.int .i64 48))] 3 true), .same (.cells [(.v (.int .u8 1)), (.v (.int .u8 13)), (.v (.int .u8 0)), (.v (.int .u8 0))] 29 true), .dead, .dead, .same (.cells [(.v (.int .i64 38))] 3 true), .same (.cells [(.v (.int .u8 1)), (.v (.int .u8 6)), (.v (.int .u8 0)), (.v (.int .u8 0))] 29 true), .same (.cells [(.v (.int .i64 38))] 3 true), .same (.cells [(.v (.int .u8 1)), (.v (.int .u8 14)), (.v (.int .u8 0)), (.v (.int .u8 0))] 29 true), .same (.cells [(.v (.int .i64 48))] 3 true), .same (.cells [(.v (.int .u8 1)), (.v (.int .u8 6)), (.v (.int .u8 0)), (.v (.int .u8 0))] 29 true), .same (.cells [(.v (.int .i64 48))] 3 true), .same (.cells [(.v (.int .u8 1)), (.v (.int .u8 14)), (.v (.int .u8 0)), (.v (.int .u8 0))] 29 true), .dead, .dead, .same (.cells [(.v (.int .i64 38))] 3 true), .same (.cells [(.v (.int .u8 1)), (.v (.int .u8 7)), (.v (.int .u8 0)), (.v (.int .u8 0))] 29 true), .same (.cells [(.v (.int .i64 38))] 3 true), .same (.cells [(.v (.int .u8 1)), (.v (.int .u8 15)), (.v (.int .u8 0)), (.v (.int .u8 0))] 29 true), .same (.cells [(.v (.int .i64 48))] 3 true), .same (.cells [(.v (.int .u8 1)), (.v (.int .u8 7)), (.v (.int .u8 0)), (.v (.int .u8 0))] 29 true), .same (.cells [(.v (.int .i64 48))] 3 true), .same (.cells [(.v (.int .u8 1)), (.v (.int .u8 15)), (.v (.int .u8 0)), (.v (.int .u8 0))] 29 true)] }
def tmSg : FuncId → Nat → Option Tm := fun g i => match Nat.beq g 13 with
  | true => match Nat.beq i 0 with | true => some Sg_T0 | false => none
  | false => none
noncomputable def SSg : SE := { E := EP, ctr := c5, tm := tmSg, un := 300, ctrM := m2 }
theorem Sg_L0 (n : Nat) (nx : Nat → List Dy → Option (List Dy)) (m : Nat) (n0 : Int) (n1 : Int) (n2 : Int) (n3 : Int) (n4 : Int) (n5 : Int) (n6 : Int) (n7 : Int) (n8 : Int) (l9 : List (List Int)) :
    RL SSg [tyA] n 13 0 nx (m + 1) [⟨(.int .u8), n0⟩, ⟨(.int .u8), n1⟩, ⟨(.int .u8), n2⟩, ⟨(.int .u8), n3⟩, ⟨(.int .u8), n4⟩, ⟨(.int .u8), n5⟩, ⟨(.int .u8), n6⟩, ⟨(.int .u8), n7⟩, ⟨(.int .u16), n8⟩, ⟨tyL, l9⟩] =
    (bif (decide ((0 : Int) < (↑(List.length l9) : Int))) then
      need (decide ((0 : Int) < (↑(List.length l9) : Int))) <|
      need (decide ((0 : Nat) < List.length l9)) <|
      need (decide ((1 : Int) ≤ (↑(List.length l9) : Int))) <|
      need (decide ((↑(List.length l9) : Int) ≤ (↑(List.length l9) : Int))) <|
      bif ((↑(List.length (List.getD l9 (0 : Nat) [])) : Int) == (0 : Int)) then
        RL SSg [tyA] n 13 0 nx m [⟨(.int .u8), (n0 : Int)⟩, ⟨(.int .u8), (n1 : Int)⟩, ⟨(.int .u8), (n2 : Int)⟩, ⟨(.int .u8), (n3 : Int)⟩, ⟨(.int .u8), (n4 : Int)⟩, ⟨(.int .u8), (n5 : Int)⟩, ⟨(.int .u8), (n6 : Int)⟩, ⟨(.int .u8), (n7 : Int)⟩, ⟨(.int .u16), (n8 : Int)⟩, ⟨tyL, (List.take (Int.toNat (↑(List.length l9) : Int) - (1 : Nat)) (List.drop (1 : Nat) l9) : List (List Int))⟩]
      else
        bif (decide ((1 : Int) < (↑(List.length (List.getD l9 (0 : Nat) [])) : Int))) then
          need (decide ((2 : Nat) ≤ List.length (List.getD l9 (0 : Nat) []))) <|
          need (decide (List.length (List.getD l9 (0 : Nat) []) ≤ (1000000 : Nat))) <|
          need (List.all (List.getD l9 (0 : Nat) []) i64B) <|
          RL SSg [tyA] n 13 0 nx m [⟨(.int .u8), (Prod.fst (Prod.fst (sevF ((n0, n1, n2, n3, ()), (n4, n5, n6, n7, ()), n8, ()) (List.getD l9 (0 : Nat) []))) : Int)⟩, ⟨(.int .u8), (Prod.fst (Prod.snd (Prod.fst (sevF ((n0, n1, n2, n3, ()), (n4, n5, n6, n7, ()), n8, ()) (List.getD l9 (0 : Nat) [])))) : Int)⟩, ⟨(.int .u8), (Prod.fst (Prod.snd (Prod.snd (Prod.fst (sevF ((n0, n1, n2, n3, ()), (n4, n5, n6, n7, ()), n8, ()) (List.getD l9 (0 : Nat) []))))) : Int)⟩, ⟨(.int .u8), (Prod.fst (Prod.snd (Prod.snd (Prod.snd (Prod.fst (sevF ((n0, n1, n2, n3, ()), (n4, n5, n6, n7, ()), n8, ()) (List.getD l9 (0 : Nat) [])))))) : Int)⟩, ⟨(.int .u8), (Prod.fst (Prod.fst (Prod.snd (sevF ((n0, n1, n2, n3, ()), (n4, n5, n6, n7, ()), n8, ()) (List.getD l9 (0 : Nat) [])))) : Int)⟩, ⟨(.int .u8), (Prod.fst (Prod.snd (Prod.fst (Prod.snd (sevF ((n0, n1, n2, n3, ()), (n4, n5, n6, n7, ()), n8, ()) (List.getD l9 (0 : Nat) []))))) : Int)⟩, ⟨(.int .u8), (Prod.fst (Prod.snd (Prod.snd (Prod.fst (Prod.snd (sevF ((n0, n1, n2, n3, ()), (n4, n5, n6, n7, ()), n8, ()) (List.getD l9 (0 : Nat) [])))))) : Int)⟩, ⟨(.int .u8), (Prod.fst (Prod.snd (Prod.snd (Prod.snd (Prod.fst (Prod.snd (sevF ((n0, n1, n2, n3, ()), (n4, n5, n6, n7, ()), n8, ()) (List.getD l9 (0 : Nat) []))))))) : Int)⟩, ⟨(.int .u16), (Prod.fst (Prod.snd (Prod.snd (sevF ((n0, n1, n2, n3, ()), (n4, n5, n6, n7, ()), n8, ()) (List.getD l9 (0 : Nat) [])))) : Int)⟩, ⟨tyL, (List.take (Int.toNat (↑(List.length l9) : Int) - (1 : Nat)) (List.drop (1 : Nat) l9) : List (List Int))⟩]
        else
          need (decide ((0 : Int) < (↑(List.length (List.getD l9 (0 : Nat) [])) : Int))) <|
          need (decide ((0 : Nat) < List.length (List.getD l9 (0 : Nat) []))) <|
          bif (List.getD (List.getD l9 (0 : Nat) []) (0 : Nat) (0 : Int) == (38 : Int)) then
            bif (List.getD (List.getD l9 (0 : Nat) []) (0 : Nat) (0 : Int) == (38 : Int)) then
              need (decide ((0 : Int) < (↑(List.length (List.getD l9 (0 : Nat) [])) : Int))) <|
              need (decide ((0 : Nat) < List.length (List.getD l9 (0 : Nat) []))) <|
              need (decide (List.length (List.take (Int.toNat (↑(List.length l9) : Int) - (1 : Nat)) (List.drop (1 : Nat) l9)) ≤ (1000000 : Nat))) <|
              need (allB (List.take (Int.toNat (↑(List.length l9) : Int) - (1 : Nat)) (List.drop (1 : Nat) l9))) <|
              RL SSg [tyA] n 13 0 nx m [⟨(.int .u8), (Prod.fst (Prod.fst (Prod.fst (behF ((n0, n1, n2, n3, ()), (n4, n5, n6, n7, ()), n8, ()) (List.getD (List.getD l9 (0 : Nat) []) (0 : Nat) (0 : Int)) (List.take (Int.toNat (↑(List.length l9) : Int) - (1 : Nat)) (List.drop (1 : Nat) l9))))) : Int)⟩, ⟨(.int .u8), (Prod.fst (Prod.snd (Prod.fst (Prod.fst (behF ((n0, n1, n2, n3, ()), (n4, n5, n6, n7, ()), n8, ()) (List.getD (List.getD l9 (0 : Nat) []) (0 : Nat) (0 : Int)) (List.take (Int.toNat (↑(List.length l9) : Int) - (1 : Nat)) (List.drop (1 : Nat) l9)))))) : Int)⟩, ⟨(.int .u8), (Prod.fst (Prod.snd (Prod.snd (Prod.fst (Prod.fst (behF ((n0, n1, n2, n3, ()), (n4, n5, n6, n7, ()), n8, ()) (List.getD (List.getD l9 (0 : Nat) []) (0 : Nat) (0 : Int)) (List.take (Int.toNat (↑(List.length l9) : Int) - (1 : Nat)) (List.drop (1 : Nat) l9))))))) : Int)⟩, ⟨(.int .u8), (Prod.fst (Prod.snd (Prod.snd (Prod.snd (Prod.fst (Prod.fst (behF ((n0, n1, n2, n3, ()), (n4, n5, n6, n7, ()), n8, ()) (List.getD (List.getD l9 (0 : Nat) []) (0 : Nat) (0 : Int)) (List.take (Int.toNat (↑(List.length l9) : Int) - (1 : Nat)) (List.drop (1 : Nat) l9)))))))) : Int)⟩, ⟨(.int .u8), (Prod.fst (Prod.fst (Prod.snd (Prod.fst (behF ((n0, n1, n2, n3, ()), (n4, n5, n6, n7, ()), n8, ()) (List.getD (List.getD l9 (0 : Nat) []) (0 : Nat) (0 : Int)) (List.take (Int.toNat (↑(List.length l9) : Int) - (1 : Nat)) (List.drop (1 : Nat) l9)))))) : Int)⟩, ⟨(.int .u8), (Prod.fst (Prod.snd (Prod.fst (Prod.snd (Prod.fst (behF ((n0, n1, n2, n3, ()), (n4, n5, n6, n7, ()), n8, ()) (List.getD (List.getD l9 (0 : Nat) []) (0 : Nat) (0 : Int)) (List.take (Int.toNat (↑(List.length l9) : Int) - (1 : Nat)) (List.drop (1 : Nat) l9))))))) : Int)⟩, ⟨(.int .u8), (Prod.fst (Prod.snd (Prod.snd (Prod.fst (Prod.snd (Prod.fst (behF ((n0, n1, n2, n3, ()), (n4, n5, n6, n7, ()), n8, ()) (List.getD (List.getD l9 (0 : Nat) []) (0 : Nat) (0 : Int)) (List.take (Int.toNat (↑(List.length l9) : Int) - (1 : Nat)) (List.drop (1 : Nat) l9)))))))) : Int)⟩, ⟨(.int .u8), (Prod.fst (Prod.snd (Prod.snd (Prod.snd (Prod.fst (Prod.snd (Prod.fst (behF ((n0, n1, n2, n3, ()), (n4, n5, n6, n7, ()), n8, ()) (List.getD (List.getD l9 (0 : Nat) []) (0 : Nat) (0 : Int)) (List.take (Int.toNat (↑(List.length l9) : Int) - (1 : Nat)) (List.drop (1 : Nat) l9))))))))) : Int)⟩, ⟨(.int .u16), (Prod.fst (Prod.snd (Prod.snd (Prod.fst (behF ((n0, n1, n2, n3, ()), (n4, n5, n6, n7, ()), n8, ()) (List.getD (List.getD l9 (0 : Nat) []) (0 : Nat) (0 : Int)) (List.take (Int.toNat (↑(List.length l9) : Int) - (1 : Nat)) (List.drop (1 : Nat) l9)))))) : Int)⟩, ⟨tyL, (Prod.snd (behF ((n0, n1, n2, n3, ()), (n4, n5, n6, n7, ()), n8, ()) (List.getD (List.getD l9 (0 : Nat) []) (0 : Nat) (0 : Int)) (List.take (Int.toNat (↑(List.length l9) : Int) - (1 : Nat)) (List.drop (1 : Nat) l9))) : List (List Int))⟩]
            else
              need (decide ((0 : Int) < (↑(List.length (List.getD l9 (0 : Nat) [])) : Int))) <|
              need (decide ((0 : Nat) < List.length (List.getD l9 (0 : Nat) []))) <|
              bif (List.getD (List.getD l9 (0 : Nat) []) (0 : Nat) (0 : Int) == (-1 : Int)) then
                RL SSg [tyA] n 13 0 nx m [⟨(.int .u8), ((0 : Int) : Int)⟩, ⟨(.int .u8), ((0 : Int) : Int)⟩, ⟨(.int .u8), ((0 : Int) : Int)⟩, ⟨(.int .u8), ((0 : Int) : Int)⟩, ⟨(.int .u8), ((0 : Int) : Int)⟩, ⟨(.int .u8), ((0 : Int) : Int)⟩, ⟨(.int .u8), ((0 : Int) : Int)⟩, ⟨(.int .u8), ((0 : Int) : Int)⟩, ⟨(.int .u16), ((0 : Int) : Int)⟩, ⟨tyL, (List.take (Int.toNat (↑(List.length l9) : Int) - (1 : Nat)) (List.drop (1 : Nat) l9) : List (List Int))⟩]
              else
                bif (List.getD (List.getD l9 (0 : Nat) []) (0 : Nat) (0 : Int) == (0 : Int)) then
                  RL SSg [tyA] n 13 0 nx m [⟨(.int .u8), ((0 : Int) : Int)⟩, ⟨(.int .u8), ((0 : Int) : Int)⟩, ⟨(.int .u8), ((0 : Int) : Int)⟩, ⟨(.int .u8), ((0 : Int) : Int)⟩, ⟨(.int .u8), ((0 : Int) : Int)⟩, ⟨(.int .u8), ((0 : Int) : Int)⟩, ⟨(.int .u8), ((0 : Int) : Int)⟩, ⟨(.int .u8), ((0 : Int) : Int)⟩, ⟨(.int .u16), ((0 : Int) : Int)⟩, ⟨tyL, (List.take (Int.toNat (↑(List.length l9) : Int) - (1 : Nat)) (List.drop (1 : Nat) l9) : List (List Int))⟩]
                else
                  bif (List.getD (List.getD l9 (0 : Nat) []) (0 : Nat) (0 : Int) == (22 : Int)) then
                    RL SSg [tyA] n 13 0 nx m [⟨(.int .u8), (n0 : Int)⟩, ⟨(.int .u8), (n1 : Int)⟩, ⟨(.int .u8), (n2 : Int)⟩, ⟨(.int .u8), (n3 : Int)⟩, ⟨(.int .u8), (n4 : Int)⟩, ⟨(.int .u8), (n5 : Int)⟩, ⟨(.int .u8), (n6 : Int)⟩, ⟨(.int .u8), (n7 : Int)⟩, ⟨(.int .u16), (orF (clrL [(1 : Int), (2 : Int)] n8) (0 : Int) : Int)⟩, ⟨tyL, (List.take (Int.toNat (↑(List.length l9) : Int) - (1 : Nat)) (List.drop (1 : Nat) l9) : List (List Int))⟩]
                  else
                    bif (List.getD (List.getD l9 (0 : Nat) []) (0 : Nat) (0 : Int) == (39 : Int)) then
                      RL SSg [tyA] n 13 0 nx m [⟨(.int .u8), ((0 : Int) : Int)⟩, ⟨(.int .u8), ((0 : Int) : Int)⟩, ⟨(.int .u8), ((0 : Int) : Int)⟩, ⟨(.int .u8), ((0 : Int) : Int)⟩, ⟨(.int .u8), (n4 : Int)⟩, ⟨(.int .u8), (n5 : Int)⟩, ⟨(.int .u8), (n6 : Int)⟩, ⟨(.int .u8), (n7 : Int)⟩, ⟨(.int .u16), (n8 : Int)⟩, ⟨tyL, (List.take (Int.toNat (↑(List.length l9) : Int) - (1 : Nat)) (List.drop (1 : Nat) l9) : List (List Int))⟩]
                    else
                      bif (List.getD (List.getD l9 (0 : Nat) []) (0 : Nat) (0 : Int) == (49 : Int)) then
                        RL SSg [tyA] n 13 0 nx m [⟨(.int .u8), (n0 : Int)⟩, ⟨(.int .u8), (n1 : Int)⟩, ⟨(.int .u8), (n2 : Int)⟩, ⟨(.int .u8), (n3 : Int)⟩, ⟨(.int .u8), ((0 : Int) : Int)⟩, ⟨(.int .u8), ((0 : Int) : Int)⟩, ⟨(.int .u8), ((0 : Int) : Int)⟩, ⟨(.int .u8), ((0 : Int) : Int)⟩, ⟨(.int .u16), (n8 : Int)⟩, ⟨tyL, (List.take (Int.toNat (↑(List.length l9) : Int) - (1 : Nat)) (List.drop (1 : Nat) l9) : List (List Int))⟩]
                      else
                        bif (List.getD (List.getD l9 (0 : Nat) []) (0 : Nat) (0 : Int) == (1 : Int)) then
                          RL SSg [tyA] n 13 0 nx m [⟨(.int .u8), (n0 : Int)⟩, ⟨(.int .u8), (n1 : Int)⟩, ⟨(.int .u8), (n2 : Int)⟩, ⟨(.int .u8), (n3 : Int)⟩, ⟨(.int .u8), (n4 : Int)⟩, ⟨(.int .u8), (n5 : Int)⟩, ⟨(.int .u8), (n6 : Int)⟩, ⟨(.int .u8), (n7 : Int)⟩, ⟨(.int .u16), (orF (clrL [] n8) (1 : Int) : Int)⟩, ⟨tyL, (List.take (Int.toNat (↑(List.length l9) : Int) - (1 : Nat)) (List.drop (1 : Nat) l9) : List (List Int))⟩]
                        else
                          bif (List.getD (List.getD l9 (0 : Nat) []) (0 : Nat) (0 : Int) == (2 : Int)) then
                            RL SSg [tyA] n 13 0 nx m [⟨(.int .u8), (n0 : Int)⟩, ⟨(.int .u8), (n1 : Int)⟩, ⟨(.int .u8), (n2 : Int)⟩, ⟨(.int .u8), (n3 : Int)⟩, ⟨(.int .u8), (n4 : Int)⟩, ⟨(.int .u8), (n5 : Int)⟩, ⟨(.int .u8), (n6 : Int)⟩, ⟨(.int .u8), (n7 : Int)⟩, ⟨(.int .u16), (orF (clrL [] n8) (2 : Int) : Int)⟩, ⟨tyL, (List.take (Int.toNat (↑(List.length l9) : Int) - (1 : Nat)) (List.drop (1 : Nat) l9) : List (List Int))⟩]
                          else
                            bif (List.getD (List.getD l9 (0 : Nat) []) (0 : Nat) (0 : Int) == (3 : Int)) then
                              RL SSg [tyA] n 13 0 nx m [⟨(.int .u8), (n0 : Int)⟩, ⟨(.int .u8), (n1 : Int)⟩, ⟨(.int .u8), (n2 : Int)⟩, ⟨(.int .u8), (n3 : Int)⟩, ⟨(.int .u8), (n4 : Int)⟩, ⟨(.int .u8), (n5 : Int)⟩, ⟨(.int .u8), (n6 : Int)⟩, ⟨(.int .u8), (n7 : Int)⟩, ⟨(.int .u16), (orF (clrL [] n8) (4 : Int) : Int)⟩, ⟨tyL, (List.take (Int.toNat (↑(List.length l9) : Int) - (1 : Nat)) (List.drop (1 : Nat) l9) : List (List Int))⟩]
                            else
                              bif (List.getD (List.getD l9 (0 : Nat) []) (0 : Nat) (0 : Int) == (23 : Int)) then
                                RL SSg [tyA] n 13 0 nx m [⟨(.int .u8), (n0 : Int)⟩, ⟨(.int .u8), (n1 : Int)⟩, ⟨(.int .u8), (n2 : Int)⟩, ⟨(.int .u8), (n3 : Int)⟩, ⟨(.int .u8), (n4 : Int)⟩, ⟨(.int .u8), (n5 : Int)⟩, ⟨(.int .u8), (n6 : Int)⟩, ⟨(.int .u8), (n7 : Int)⟩, ⟨(.int .u16), (orF (clrL [(4 : Int)] n8) (0 : Int) : Int)⟩, ⟨tyL, (List.take (Int.toNat (↑(List.length l9) : Int) - (1 : Nat)) (List.drop (1 : Nat) l9) : List (List Int))⟩]
                              else
                                bif (List.getD (List.getD l9 (0 : Nat) []) (0 : Nat) (0 : Int) == (4 : Int)) then
                                  RL SSg [tyA] n 13 0 nx m [⟨(.int .u8), (n0 : Int)⟩, ⟨(.int .u8), (n1 : Int)⟩, ⟨(.int .u8), (n2 : Int)⟩, ⟨(.int .u8), (n3 : Int)⟩, ⟨(.int .u8), (n4 : Int)⟩, ⟨(.int .u8), (n5 : Int)⟩, ⟨(.int .u8), (n6 : Int)⟩, ⟨(.int .u8), (n7 : Int)⟩, ⟨(.int .u16), (orF (clrL [(264 : Int)] n8) (8 : Int) : Int)⟩, ⟨tyL, (List.take (Int.toNat (↑(List.length l9) : Int) - (1 : Nat)) (List.drop (1 : Nat) l9) : List (List Int))⟩]
                                else
                                  bif (List.getD (List.getD l9 (0 : Nat) []) (0 : Nat) (0 : Int) == (24 : Int)) then
                                    RL SSg [tyA] n 13 0 nx m [⟨(.int .u8), (n0 : Int)⟩, ⟨(.int .u8), (n1 : Int)⟩, ⟨(.int .u8), (n2 : Int)⟩, ⟨(.int .u8), (n3 : Int)⟩, ⟨(.int .u8), (n4 : Int)⟩, ⟨(.int .u8), (n5 : Int)⟩, ⟨(.int .u8), (n6 : Int)⟩, ⟨(.int .u8), (n7 : Int)⟩, ⟨(.int .u16), (orF (clrL [(264 : Int)] n8) (0 : Int) : Int)⟩, ⟨tyL, (List.take (Int.toNat (↑(List.length l9) : Int) - (1 : Nat)) (List.drop (1 : Nat) l9) : List (List Int))⟩]
                                  else
                                    bif (List.getD (List.getD l9 (0 : Nat) []) (0 : Nat) (0 : Int) == (5 : Int)) then
                                      RL SSg [tyA] n 13 0 nx m [⟨(.int .u8), (n0 : Int)⟩, ⟨(.int .u8), (n1 : Int)⟩, ⟨(.int .u8), (n2 : Int)⟩, ⟨(.int .u8), (n3 : Int)⟩, ⟨(.int .u8), (n4 : Int)⟩, ⟨(.int .u8), (n5 : Int)⟩, ⟨(.int .u8), (n6 : Int)⟩, ⟨(.int .u8), (n7 : Int)⟩, ⟨(.int .u16), (orF (clrL [] n8) (16 : Int) : Int)⟩, ⟨tyL, (List.take (Int.toNat (↑(List.length l9) : Int) - (1 : Nat)) (List.drop (1 : Nat) l9) : List (List Int))⟩]
                                    else
                                      bif (List.getD (List.getD l9 (0 : Nat) []) (0 : Nat) (0 : Int) == (25 : Int)) then
                                        RL SSg [tyA] n 13 0 nx m [⟨(.int .u8), (n0 : Int)⟩, ⟨(.int .u8), (n1 : Int)⟩, ⟨(.int .u8), (n2 : Int)⟩, ⟨(.int .u8), (n3 : Int)⟩, ⟨(.int .u8), (n4 : Int)⟩, ⟨(.int .u8), (n5 : Int)⟩, ⟨(.int .u8), (n6 : Int)⟩, ⟨(.int .u8), (n7 : Int)⟩, ⟨(.int .u16), (orF (clrL [(16 : Int)] n8) (0 : Int) : Int)⟩, ⟨tyL, (List.take (Int.toNat (↑(List.length l9) : Int) - (1 : Nat)) (List.drop (1 : Nat) l9) : List (List Int))⟩]
                                      else
                                        bif (List.getD (List.getD l9 (0 : Nat) []) (0 : Nat) (0 : Int) == (7 : Int)) then
                                          RL SSg [tyA] n 13 0 nx m [⟨(.int .u8), (n0 : Int)⟩, ⟨(.int .u8), (n1 : Int)⟩, ⟨(.int .u8), (n2 : Int)⟩, ⟨(.int .u8), (n3 : Int)⟩, ⟨(.int .u8), (n4 : Int)⟩, ⟨(.int .u8), (n5 : Int)⟩, ⟨(.int .u8), (n6 : Int)⟩, ⟨(.int .u8), (n7 : Int)⟩, ⟨(.int .u16), (orF (clrL [] n8) (32 : Int) : Int)⟩, ⟨tyL, (List.take (Int.toNat (↑(List.length l9) : Int) - (1 : Nat)) (List.drop (1 : Nat) l9) : List (List Int))⟩]
                                        else
                                          bif (List.getD (List.getD l9 (0 : Nat) []) (0 : Nat) (0 : Int) == (27 : Int)) then
                                            RL SSg [tyA] n 13 0 nx m [⟨(.int .u8), (n0 : Int)⟩, ⟨(.int .u8), (n1 : Int)⟩, ⟨(.int .u8), (n2 : Int)⟩, ⟨(.int .u8), (n3 : Int)⟩, ⟨(.int .u8), (n4 : Int)⟩, ⟨(.int .u8), (n5 : Int)⟩, ⟨(.int .u8), (n6 : Int)⟩, ⟨(.int .u8), (n7 : Int)⟩, ⟨(.int .u16), (orF (clrL [(32 : Int)] n8) (0 : Int) : Int)⟩, ⟨tyL, (List.take (Int.toNat (↑(List.length l9) : Int) - (1 : Nat)) (List.drop (1 : Nat) l9) : List (List Int))⟩]
                                          else
                                            bif (List.getD (List.getD l9 (0 : Nat) []) (0 : Nat) (0 : Int) == (8 : Int)) then
                                              RL SSg [tyA] n 13 0 nx m [⟨(.int .u8), (n0 : Int)⟩, ⟨(.int .u8), (n1 : Int)⟩, ⟨(.int .u8), (n2 : Int)⟩, ⟨(.int .u8), (n3 : Int)⟩, ⟨(.int .u8), (n4 : Int)⟩, ⟨(.int .u8), (n5 : Int)⟩, ⟨(.int .u8), (n6 : Int)⟩, ⟨(.int .u8), (n7 : Int)⟩, ⟨(.int .u16), (orF (clrL [] n8) (64 : Int) : Int)⟩, ⟨tyL, (List.take (Int.toNat (↑(List.length l9) : Int) - (1 : Nat)) (List.drop (1 : Nat) l9) : List (List Int))⟩]
                                            else
                                              bif (List.getD (List.getD l9 (0 : Nat) []) (0 : Nat) (0 : Int) == (28 : Int)) then
                                                RL SSg [tyA] n 13 0 nx m [⟨(.int .u8), (n0 : Int)⟩, ⟨(.int .u8), (n1 : Int)⟩, ⟨(.int .u8), (n2 : Int)⟩, ⟨(.int .u8), (n3 : Int)⟩, ⟨(.int .u8), (n4 : Int)⟩, ⟨(.int .u8), (n5 : Int)⟩, ⟨(.int .u8), (n6 : Int)⟩, ⟨(.int .u8), (n7 : Int)⟩, ⟨(.int .u16), (orF (clrL [(64 : Int)] n8) (0 : Int) : Int)⟩, ⟨tyL, (List.take (Int.toNat (↑(List.length l9) : Int) - (1 : Nat)) (List.drop (1 : Nat) l9) : List (List Int))⟩]
                                              else
                                                bif (List.getD (List.getD l9 (0 : Nat) []) (0 : Nat) (0 : Int) == (9 : Int)) then
                                                  RL SSg [tyA] n 13 0 nx m [⟨(.int .u8), (n0 : Int)⟩, ⟨(.int .u8), (n1 : Int)⟩, ⟨(.int .u8), (n2 : Int)⟩, ⟨(.int .u8), (n3 : Int)⟩, ⟨(.int .u8), (n4 : Int)⟩, ⟨(.int .u8), (n5 : Int)⟩, ⟨(.int .u8), (n6 : Int)⟩, ⟨(.int .u8), (n7 : Int)⟩, ⟨(.int .u16), (orF (clrL [] n8) (128 : Int) : Int)⟩, ⟨tyL, (List.take (Int.toNat (↑(List.length l9) : Int) - (1 : Nat)) (List.drop (1 : Nat) l9) : List (List Int))⟩]
                                                else
                                                  bif (List.getD (List.getD l9 (0 : Nat) []) (0 : Nat) (0 : Int) == (29 : Int)) then
                                                    RL SSg [tyA] n 13 0 nx m [⟨(.int .u8), (n0 : Int)⟩, ⟨(.int .u8), (n1 : Int)⟩, ⟨(.int .u8), (n2 : Int)⟩, ⟨(.int .u8), (n3 : Int)⟩, ⟨(.int .u8), (n4 : Int)⟩, ⟨(.int .u8), (n5 : Int)⟩, ⟨(.int .u8), (n6 : Int)⟩, ⟨(.int .u8), (n7 : Int)⟩, ⟨(.int .u16), (orF (clrL [(128 : Int)] n8) (0 : Int) : Int)⟩, ⟨tyL, (List.take (Int.toNat (↑(List.length l9) : Int) - (1 : Nat)) (List.drop (1 : Nat) l9) : List (List Int))⟩]
                                                  else
                                                    bif (List.getD (List.getD l9 (0 : Nat) []) (0 : Nat) (0 : Int) == (21 : Int)) then
                                                      RL SSg [tyA] n 13 0 nx m [⟨(.int .u8), (n0 : Int)⟩, ⟨(.int .u8), (n1 : Int)⟩, ⟨(.int .u8), (n2 : Int)⟩, ⟨(.int .u8), (n3 : Int)⟩, ⟨(.int .u8), (n4 : Int)⟩, ⟨(.int .u8), (n5 : Int)⟩, ⟨(.int .u8), (n6 : Int)⟩, ⟨(.int .u8), (n7 : Int)⟩, ⟨(.int .u16), (orF (clrL [(264 : Int)] n8) (256 : Int) : Int)⟩, ⟨tyL, (List.take (Int.toNat (↑(List.length l9) : Int) - (1 : Nat)) (List.drop (1 : Nat) l9) : List (List Int))⟩]
                                                    else
                                                      bif (List.getD (List.getD l9 (0 : Nat) []) (0 : Nat) (0 : Int) == (30 : Int)) then
                                                        RL SSg [tyA] n 13 0 nx m [⟨(.int .u8), ((1 : Int) : Int)⟩, ⟨(.int .u8), ((0 : Int) : Int)⟩, ⟨(.int .u8), ((0 : Int) : Int)⟩, ⟨(.int .u8), ((0 : Int) : Int)⟩, ⟨(.int .u8), (n4 : Int)⟩, ⟨(.int .u8), (n5 : Int)⟩, ⟨(.int .u8), (n6 : Int)⟩, ⟨(.int .u8), (n7 : Int)⟩, ⟨(.int .u16), (n8 : Int)⟩, ⟨tyL, (List.take (Int.toNat (↑(List.length l9) : Int) - (1 : Nat)) (List.drop (1 : Nat) l9) : List (List Int))⟩]
                                                      else
                                                        bif (List.getD (List.getD l9 (0 : Nat) []) (0 : Nat) (0 : Int) == (90 : Int)) then
                                                          RL SSg [tyA] n 13 0 nx m [⟨(.int .u8), ((1 : Int) : Int)⟩, ⟨(.int .u8), ((8 : Int) : Int)⟩, ⟨(.int .u8), ((0 : Int) : Int)⟩, ⟨(.int .u8), ((0 : Int) : Int)⟩, ⟨(.int .u8), (n4 : Int)⟩, ⟨(.int .u8), (n5 : Int)⟩, ⟨(.int .u8), (n6 : Int)⟩, ⟨(.int .u8), (n7 : Int)⟩, ⟨(.int .u16), (n8 : Int)⟩, ⟨tyL, (List.take (Int.toNat (↑(List.length l9) : Int) - (1 : Nat)) (List.drop (1 : Nat) l9) : List (List Int))⟩]
                                                        else
                                                          bif (List.getD (List.getD l9 (0 : Nat) []) (0 : Nat) (0 : Int) == (40 : Int)) then
                                                            RL SSg [tyA] n 13 0 nx m [⟨(.int .u8), (n0 : Int)⟩, ⟨(.int .u8), (n1 : Int)⟩, ⟨(.int .u8), (n2 : Int)⟩, ⟨(.int .u8), (n3 : Int)⟩, ⟨(.int .u8), ((1 : Int) : Int)⟩, ⟨(.int .u8), ((0 : Int) : Int)⟩, ⟨(.int .u8), ((0 : Int) : Int)⟩, ⟨(.int .u8), ((0 : Int) : Int)⟩, ⟨(.int .u16), (n8 : Int)⟩, ⟨tyL, (List.take (Int.toNat (↑(List.length l9) : Int) - (1 : Nat)) (List.drop (1 : Nat) l9) : List (List Int))⟩]
                                                          else
                                                            bif (List.getD (List.getD l9 (0 : Nat) []) (0 : Nat) (0 : Int) == (100 : Int)) then
                                                              RL SSg [tyA] n 13 0 nx m [⟨(.int .u8), (n0 : Int)⟩, ⟨(.int .u8), (n1 : Int)⟩, ⟨(.int .u8), (n2 : Int)⟩, ⟨(.int .u8), (n3 : Int)⟩, ⟨(.int .u8), ((1 : Int) : Int)⟩, ⟨(.int .u8), ((8 : Int) : Int)⟩, ⟨(.int .u8), ((0 : Int) : Int)⟩, ⟨(.int .u8), ((0 : Int) : Int)⟩, ⟨(.int .u16), (n8 : Int)⟩, ⟨tyL, (List.take (Int.toNat (↑(List.length l9) : Int) - (1 : Nat)) (List.drop (1 : Nat) l9) : List (List Int))⟩]
                                                            else
                                                              bif (List.getD (List.getD l9 (0 : Nat) []) (0 : Nat) (0 : Int) == (31 : Int)) then
                                                                RL SSg [tyA] n 13 0 nx m [⟨(.int .u8), ((1 : Int) : Int)⟩, ⟨(.int .u8), ((1 : Int) : Int)⟩, ⟨(.int .u8), ((0 : Int) : Int)⟩, ⟨(.int .u8), ((0 : Int) : Int)⟩, ⟨(.int .u8), (n4 : Int)⟩, ⟨(.int .u8), (n5 : Int)⟩, ⟨(.int .u8), (n6 : Int)⟩, ⟨(.int .u8), (n7 : Int)⟩, ⟨(.int .u16), (n8 : Int)⟩, ⟨tyL, (List.take (Int.toNat (↑(List.length l9) : Int) - (1 : Nat)) (List.drop (1 : Nat) l9) : List (List Int))⟩]
                                                              else
                                                                bif (List.getD (List.getD l9 (0 : Nat) []) (0 : Nat) (0 : Int) == (91 : Int)) then
                                                                  RL SSg [tyA] n 13 0 nx m [⟨(.int .u8), ((1 : Int) : Int)⟩, ⟨(.int .u8), ((9 : Int) : Int)⟩, ⟨(.int .u8), ((0 : Int) : Int)⟩, ⟨(.int .u8), ((0 : Int) : Int)⟩, ⟨(.int .u8), (n4 : Int)⟩, ⟨(.int .u8), (n5 : Int)⟩, ⟨(.int .u8), (n6 : Int)⟩, ⟨(.int .u8), (n7 : Int)⟩, ⟨(.int .u16), (n8 : Int)⟩, ⟨tyL, (List.take (Int.toNat (↑(List.length l9) : Int) - (1 : Nat)) (List.drop (1 : Nat) l9) : List (List Int))⟩]
                                                                else
                                                                  bif (List.getD (List.getD l9 (0 : Nat) []) (0 : Nat) (0 : Int) == (41 : Int)) then
                                                                    RL SSg [tyA] n 13 0 nx m [⟨(.int .u8), (n0 : Int)⟩, ⟨(.int .u8), (n1 : Int)⟩, ⟨(.int .u8), (n2 : Int)⟩, ⟨(.int .u8), (n3 : Int)⟩, ⟨(.int .u8), ((1 : Int) : Int)⟩, ⟨(.int .u8), ((1 : Int) : Int)⟩, ⟨(.int .u8), ((0 : Int) : Int)⟩, ⟨(.int .u8), ((0 : Int) : Int)⟩, ⟨(.int .u16), (n8 : Int)⟩, ⟨tyL, (List.take (Int.toNat (↑(List.length l9) : Int) - (1 : Nat)) (List.drop (1 : Nat) l9) : List (List Int))⟩]
                                                                  else
                                                                    bif (List.getD (List.getD l9 (0 : Nat) []) (0 : Nat) (0 : Int) == (101 : Int)) then
                                                                      RL SSg [tyA] n 13 0 nx m [⟨(.int .u8), (n0 : Int)⟩, ⟨(.int .u8), (n1 : Int)⟩, ⟨(.int .u8), (n2 : Int)⟩, ⟨(.int .u8), (n3 : Int)⟩, ⟨(.int .u8), ((1 : Int) : Int)⟩, ⟨(.int .u8), ((9 : Int) : Int)⟩, ⟨(.int .u8), ((0 : Int) : Int)⟩, ⟨(.int .u8), ((0 : Int) : Int)⟩, ⟨(.int .u16), (n8 : Int)⟩, ⟨tyL, (List.take (Int.toNat (↑(List.length l9) : Int) - (1 : Nat)) (List.drop (1 : Nat) l9) : List (List Int))⟩]
                                                                    else
                                                                      bif (List.getD (List.getD l9 (0 : Nat) []) (0 : Nat) (0 : Int) == (32 : Int)) then
                                                                        RL SSg [tyA] n 13 0 nx m [⟨(.int .u8), ((1 : Int) : Int)⟩, ⟨(.int .u8), ((2 : Int) : Int)⟩, ⟨(.int .u8), ((0 : Int) : Int)⟩, ⟨(.int .u8), ((0 : Int) : Int)⟩, ⟨(.int .u8), (n4 : Int)⟩, ⟨(.int .u8), (n5 : Int)⟩, ⟨(.int .u8), (n6 : Int)⟩, ⟨(.int .u8), (n7 : Int)⟩, ⟨(.int .u16), (n8 : Int)⟩, ⟨tyL, (List.take (Int.toNat (↑(List.length l9) : Int) - (1 : Nat)) (List.drop (1 : Nat) l9) : List (List Int))⟩]
                                                                      else
                                                                        bif (List.getD (List.getD l9 (0 : Nat) []) (0 : Nat) (0 : Int) == (92 : Int)) then
                                                                          RL SSg [tyA] n 13 0 nx m [⟨(.int .u8), ((1 : Int) : Int)⟩, ⟨(.int .u8), ((10 : Int) : Int)⟩, ⟨(.int .u8), ((0 : Int) : Int)⟩, ⟨(.int .u8), ((0 : Int) : Int)⟩, ⟨(.int .u8), (n4 : Int)⟩, ⟨(.int .u8), (n5 : Int)⟩, ⟨(.int .u8), (n6 : Int)⟩, ⟨(.int .u8), (n7 : Int)⟩, ⟨(.int .u16), (n8 : Int)⟩, ⟨tyL, (List.take (Int.toNat (↑(List.length l9) : Int) - (1 : Nat)) (List.drop (1 : Nat) l9) : List (List Int))⟩]
                                                                        else
                                                                          bif (List.getD (List.getD l9 (0 : Nat) []) (0 : Nat) (0 : Int) == (42 : Int)) then
                                                                            RL SSg [tyA] n 13 0 nx m [⟨(.int .u8), (n0 : Int)⟩, ⟨(.int .u8), (n1 : Int)⟩, ⟨(.int .u8), (n2 : Int)⟩, ⟨(.int .u8), (n3 : Int)⟩, ⟨(.int .u8), ((1 : Int) : Int)⟩, ⟨(.int .u8), ((2 : Int) : Int)⟩, ⟨(.int .u8), ((0 : Int) : Int)⟩, ⟨(.int .u8), ((0 : Int) : Int)⟩, ⟨(.int .u16), (n8 : Int)⟩, ⟨tyL, (List.take (Int.toNat (↑(List.length l9) : Int) - (1 : Nat)) (List.drop (1 : Nat) l9) : List (List Int))⟩]
                                                                          else
                                                                            bif (List.getD (List.getD l9 (0 : Nat) []) (0 : Nat) (0 : Int) == (102 : Int)) then
                                                                              RL SSg [tyA] n 13 0 nx m [⟨(.int .u8), (n0 : Int)⟩, ⟨(.int .u8), (n1 : Int)⟩, ⟨(.int .u8), (n2 : Int)⟩, ⟨(.int .u8), (n3 : Int)⟩, ⟨(.int .u8), ((1 : Int) : Int)⟩, ⟨(.int .u8), ((10 : Int) : Int)⟩, ⟨(.int .u8), ((0 : Int) : Int)⟩, ⟨(.int .u8), ((0 : Int) : Int)⟩, ⟨(.int .u16), (n8 : Int)⟩, ⟨tyL, (List.take (Int.toNat (↑(List.length l9) : Int) - (1 : Nat)) (List.drop (1 : Nat) l9) : List (List Int))⟩]
                                                                            else
                                                                              bif (List.getD (List.getD l9 (0 : Nat) []) (0 : Nat) (0 : Int) == (33 : Int)) then
                                                                                RL SSg [tyA] n 13 0 nx m [⟨(.int .u8), ((1 : Int) : Int)⟩, ⟨(.int .u8), ((3 : Int) : Int)⟩, ⟨(.int .u8), ((0 : Int) : Int)⟩, ⟨(.int .u8), ((0 : Int) : Int)⟩, ⟨(.int .u8), (n4 : Int)⟩, ⟨(.int .u8), (n5 : Int)⟩, ⟨(.int .u8), (n6 : Int)⟩, ⟨(.int .u8), (n7 : Int)⟩, ⟨(.int .u16), (n8 : Int)⟩, ⟨tyL, (List.take (Int.toNat (↑(List.length l9) : Int) - (1 : Nat)) (List.drop (1 : Nat) l9) : List (List Int))⟩]
                                                                              else
                                                                                bif (List.getD (List.getD l9 (0 : Nat) []) (0 : Nat) (0 : Int) == (93 : Int)) then
                                                                                  RL SSg [tyA] n 13 0 nx m [⟨(.int .u8), ((1 : Int) : Int)⟩, ⟨(.int .u8), ((11 : Int) : Int)⟩, ⟨(.int .u8), ((0 : Int) : Int)⟩, ⟨(.int .u8), ((0 : Int) : Int)⟩, ⟨(.int .u8), (n4 : Int)⟩, ⟨(.int .u8), (n5 : Int)⟩, ⟨(.int .u8), (n6 : Int)⟩, ⟨(.int .u8), (n7 : Int)⟩, ⟨(.int .u16), (n8 : Int)⟩, ⟨tyL, (List.take (Int.toNat (↑(List.length l9) : Int) - (1 : Nat)) (List.drop (1 : Nat) l9) : List (List Int))⟩]
                                                                                else
                                                                                  bif (List.getD (List.getD l9 (0 : Nat) []) (0 : Nat) (0 : Int) == (43 : Int)) then
                                                                                    RL SSg [tyA] n 13 0 nx m [⟨(.int .u8), (n0 : Int)⟩, ⟨(.int .u8), (n1 : Int)⟩, ⟨(.int .u8), (n2 : Int)⟩, ⟨(.int .u8), (n3 : Int)⟩, ⟨(.int .u8), ((1 : Int) : Int)⟩, ⟨(.int .u8), ((3 : Int) : Int)⟩, ⟨(.int .u8), ((0 : Int) : Int)⟩, ⟨(.int .u8), ((0 : Int) : Int)⟩, ⟨(.int .u16), (n8 : Int)⟩, ⟨tyL, (List.take (Int.toNat (↑(List.length l9) : Int) - (1 : Nat)) (List.drop (1 : Nat) l9) : List (List Int))⟩]
                                                                                  else
                                                                                    bif (List.getD (List.getD l9 (0 : Nat) []) (0 : Nat) (0 : Int) == (103 : Int)) then
                                                                                      RL SSg [tyA] n 13 0 nx m [⟨(.int .u8), (n0 : Int)⟩, ⟨(.int .u8), (n1 : Int)⟩, ⟨(.int .u8), (n2 : Int)⟩, ⟨(.int .u8), (n3 : Int)⟩, ⟨(.int .u8), ((1 : Int) : Int)⟩, ⟨(.int .u8), ((11 : Int) : Int)⟩, ⟨(.int .u8), ((0 : Int) : Int)⟩, ⟨(.int .u8), ((0 : Int) : Int)⟩, ⟨(.int .u16), (n8 : Int)⟩, ⟨tyL, (List.take (Int.toNat (↑(List.length l9) : Int) - (1 : Nat)) (List.drop (1 : Nat) l9) : List (List Int))⟩]
                                                                                    else
                                                                                      bif (List.getD (List.getD l9 (0 : Nat) []) (0 : Nat) (0 : Int) == (34 : Int)) then
                                                                                        RL SSg [tyA] n 13 0 nx m [⟨(.int .u8), ((1 : Int) : Int)⟩, ⟨(.int .u8), ((4 : Int) : Int)⟩, ⟨(.int .u8), ((0 : Int) : Int)⟩, ⟨(.int .u8), ((0 : Int) : Int)⟩, ⟨(.int .u8), (n4 : Int)⟩, ⟨(.int .u8), (n5 : Int)⟩, ⟨(.int .u8), (n6 : Int)⟩, ⟨(.int .u8), (n7 : Int)⟩, ⟨(.int .u16), (n8 : Int)⟩, ⟨tyL, (List.take (Int.toNat (↑(List.length l9) : Int) - (1 : Nat)) (List.drop (1 : Nat) l9) : List (List Int))⟩]
                                                                                      else
                                                                                        bif (List.getD (List.getD l9 (0 : Nat) []) (0 : Nat) (0 : Int) == (94 : Int)) then
                                                                                          RL SSg [tyA] n 13 0 nx m [⟨(.int .u8), ((1 : Int) : Int)⟩, ⟨(.int .u8), ((12 : Int) : Int)⟩, ⟨(.int .u8), ((0 : Int) : Int)⟩, ⟨(.int .u8), ((0 : Int) : Int)⟩, ⟨(.int .u8), (n4 : Int)⟩, ⟨(.int .u8), (n5 : Int)⟩, ⟨(.int .u8), (n6 : Int)⟩, ⟨(.int .u8), (n7 : Int)⟩, ⟨(.int .u16), (n8 : Int)⟩, ⟨tyL, (List.take (Int.toNat (↑(List.length l9) : Int) - (1 : Nat)) (List.drop (1 : Nat) l9) : List (List Int))⟩]
                                                                                        else
                                                                                          bif (List.getD (List.getD l9 (0 : Nat) []) (0 : Nat) (0 : Int) == (44 : Int)) then
                                                                                            RL SSg [tyA] n 13 0 nx m [⟨(.int .u8), (n0 : Int)⟩, ⟨(.int .u8), (n1 : Int)⟩, ⟨(.int .u8), (n2 : Int)⟩, ⟨(.int .u8), (n3 : Int)⟩, ⟨(.int .u8), ((1 : Int) : Int)⟩, ⟨(.int .u8), ((4 : Int) : Int)⟩, ⟨(.int .u8), ((0 : Int) : Int)⟩, ⟨(.int .u8), ((0 : Int) : Int)⟩, ⟨(.int .u16), (n8 : Int)⟩, ⟨tyL, (List.take (Int.toNat (↑(List.length l9) : Int) - (1 : Nat)) (List.drop (1 : Nat) l9) : List (List Int))⟩]
                                                                                          else
                                                                                            bif (List.getD (List.getD l9 (0 : Nat) []) (0 : Nat) (0 : Int) == (104 : Int)) then
                                                                                              RL SSg [tyA] n 13 0 nx m [⟨(.int .u8), (n0 : Int)⟩, ⟨(.int .u8), (n1 : Int)⟩, ⟨(.int .u8), (n2 : Int)⟩, ⟨(.int .u8), (n3 : Int)⟩, ⟨(.int .u8), ((1 : Int) : Int)⟩, ⟨(.int .u8), ((12 : Int) : Int)⟩, ⟨(.int .u8), ((0 : Int) : Int)⟩, ⟨(.int .u8), ((0 : Int) : Int)⟩, ⟨(.int .u16), (n8 : Int)⟩, ⟨tyL, (List.take (Int.toNat (↑(List.length l9) : Int) - (1 : Nat)) (List.drop (1 : Nat) l9) : List (List Int))⟩]
                                                                                            else
                                                                                              bif (List.getD (List.getD l9 (0 : Nat) []) (0 : Nat) (0 : Int) == (35 : Int)) then
                                                                                                RL SSg [tyA] n 13 0 nx m [⟨(.int .u8), ((1 : Int) : Int)⟩, ⟨(.int .u8), ((5 : Int) : Int)⟩, ⟨(.int .u8), ((0 : Int) : Int)⟩, ⟨(.int .u8), ((0 : Int) : Int)⟩, ⟨(.int .u8), (n4 : Int)⟩, ⟨(.int .u8), (n5 : Int)⟩, ⟨(.int .u8), (n6 : Int)⟩, ⟨(.int .u8), (n7 : Int)⟩, ⟨(.int .u16), (n8 : Int)⟩, ⟨tyL, (List.take (Int.toNat (↑(List.length l9) : Int) - (1 : Nat)) (List.drop (1 : Nat) l9) : List (List Int))⟩]
                                                                                              else
                                                                                                bif (List.getD (List.getD l9 (0 : Nat) []) (0 : Nat) (0 : Int) == (95 : Int)) then
                                                                                                  RL SSg [tyA] n 13 0 nx m [⟨(.int .u8), ((1 : Int) : Int)⟩, ⟨(.int .u8), ((13 : Int) : Int)⟩, ⟨(.int .u8), ((0 : Int) : Int)⟩, ⟨(.int .u8), ((0 : Int) : Int)⟩, ⟨(.int .u8), (n4 : Int)⟩, ⟨(.int .u8), (n5 : Int)⟩, ⟨(.int .u8), (n6 : Int)⟩, ⟨(.int .u8), (n7 : Int)⟩, ⟨(.int .u16), (n8 : Int)⟩, ⟨tyL, (List.take (Int.toNat (↑(List.length l9) : Int) - (1 : Nat)) (List.drop (1 : Nat) l9) : List (List Int))⟩]
                                                                                                else
                                                                                                  bif (List.getD (List.getD l9 (0 : Nat) []) (0 : Nat) (0 : Int) == (45 : Int)) then
                                                                                                    RL SSg [tyA] n 13 0 nx m [⟨(.int .u8), (n0 : Int)⟩, ⟨(.int .u8), (n1 : Int)⟩, ⟨(.int .u8), (n2 : Int)⟩, ⟨(.int .u8), (n3 : Int)⟩, ⟨(.int .u8), ((1 : Int) : Int)⟩, ⟨(.int .u8), ((5 : Int) : Int)⟩, ⟨(.int .u8), ((0 : Int) : Int)⟩, ⟨(.int .u8), ((0 : Int) : Int)⟩, ⟨(.int .u16), (n8 : Int)⟩, ⟨tyL, (List.take (Int.toNat (↑(List.length l9) : Int) - (1 : Nat)) (List.drop (1 : Nat) l9) : List (List Int))⟩]
                                                                                                  else
                                                                                                    bif (List.getD (List.getD l9 (0 : Nat) []) (0 : Nat) (0 : Int) == (105 : Int)) then
                                                                                                      RL SSg [tyA] n 13 0 nx m [⟨(.int .u8), (n0 : Int)⟩, ⟨(.int .u8), (n1 : Int)⟩, ⟨(.int .u8), (n2 : Int)⟩, ⟨(.int .u8), (n3 : Int)⟩, ⟨(.int .u8), ((1 : Int) : Int)⟩, ⟨(.int .u8), ((13 : Int) : Int)⟩, ⟨(.int .u8), ((0 : Int) : Int)⟩, ⟨(.int .u8), ((0 : Int) : Int)⟩, ⟨(.int .u16), (n8 : Int)⟩, ⟨tyL, (List.take (Int.toNat (↑(List.length l9) : Int) - (1 : Nat)) (List.drop (1 : Nat) l9) : List (List Int))⟩]
                                                                                                    else
                                                                                                      bif (List.getD (List.getD l9 (0 : Nat) []) (0 : Nat) (0 : Int) == (36 : Int)) then
                                                                                                        RL SSg [tyA] n 13 0 nx m [⟨(.int .u8), ((1 : Int) : Int)⟩, ⟨(.int .u8), ((6 : Int) : Int)⟩, ⟨(.int .u8), ((0 : Int) : Int)⟩, ⟨(.int .u8), ((0 : Int) : Int)⟩, ⟨(.int .u8), (n4 : Int)⟩, ⟨(.int .u8), (n5 : Int)⟩, ⟨(.int .u8), (n6 : Int)⟩, ⟨(.int .u8), (n7 : Int)⟩, ⟨(.int .u16), (n8 : Int)⟩, ⟨tyL, (List.take (Int.toNat (↑(List.length l9) : Int) - (1 : Nat)) (List.drop (1 : Nat) l9) : List (List Int))⟩]
                                                                                                      else
                                                                                                        bif (List.getD (List.getD l9 (0 : Nat) []) (0 : Nat) (0 : Int) == (96 : Int)) then
                                                                                                          RL SSg [tyA] n 13 0 nx m [⟨(.int .u8), ((1 : Int) : Int)⟩, ⟨(.int .u8), ((14 : Int) : Int)⟩, ⟨(.int .u8), ((0 : Int) : Int)⟩, ⟨(.int .u8), ((0 : Int) : Int)⟩, ⟨(.int .u8), (n4 : Int)⟩, ⟨(.int .u8), (n5 : Int)⟩, ⟨(.int .u8), (n6 : Int)⟩, ⟨(.int .u8), (n7 : Int)⟩, ⟨(.int .u16), (n8 : Int)⟩, ⟨tyL, (List.take (Int.toNat (↑(List.length l9) : Int) - (1 : Nat)) (List.drop (1 : Nat) l9) : List (List Int))⟩]
                                                                                                        else
                                                                                                          bif (List.getD (List.getD l9 (0 : Nat) []) (0 : Nat) (0 : Int) == (46 : Int)) then
                                                                                                            RL SSg [tyA] n 13 0 nx m [⟨(.int .u8), (n0 : Int)⟩, ⟨(.int .u8), (n1 : Int)⟩, ⟨(.int .u8), (n2 : Int)⟩, ⟨(.int .u8), (n3 : Int)⟩, ⟨(.int .u8), ((1 : Int) : Int)⟩, ⟨(.int .u8), ((6 : Int) : Int)⟩, ⟨(.int .u8), ((0 : Int) : Int)⟩, ⟨(.int .u8), ((0 : Int) : Int)⟩, ⟨(.int .u16), (n8 : Int)⟩, ⟨tyL, (List.take (Int.toNat (↑(List.length l9) : Int) - (1 : Nat)) (List.drop (1 : Nat) l9) : List (List Int))⟩]
                                                                                                          else
                                                                                                            bif (List.getD (List.getD l9 (0 : Nat) []) (0 : Nat) (0 : Int) == (106 : Int)) then
                                                                                                              RL SSg [tyA] n 13 0 nx m [⟨(.int .u8), (n0 : Int)⟩, ⟨(.int .u8), (n1 : Int)⟩, ⟨(.int .u8), (n2 : Int)⟩, ⟨(.int .u8), (n3 : Int)⟩, ⟨(.int .u8), ((1 : Int) : Int)⟩, ⟨(.int .u8), ((14 : Int) : Int)⟩, ⟨(.int .u8), ((0 : Int) : Int)⟩, ⟨(.int .u8), ((0 : Int) : Int)⟩, ⟨(.int .u16), (n8 : Int)⟩, ⟨tyL, (List.take (Int.toNat (↑(List.length l9) : Int) - (1 : Nat)) (List.drop (1 : Nat) l9) : List (List Int))⟩]
                                                                                                            else
                                                                                                              bif (List.getD (List.getD l9 (0 : Nat) []) (0 : Nat) (0 : Int) == (37 : Int)) then
                                                                                                                RL SSg [tyA] n 13 0 nx m [⟨(.int .u8), ((1 : Int) : Int)⟩, ⟨(.int .u8), ((7 : Int) : Int)⟩, ⟨(.int .u8), ((0 : Int) : Int)⟩, ⟨(.int .u8), ((0 : Int) : Int)⟩, ⟨(.int .u8), (n4 : Int)⟩, ⟨(.int .u8), (n5 : Int)⟩, ⟨(.int .u8), (n6 : Int)⟩, ⟨(.int .u8), (n7 : Int)⟩, ⟨(.int .u16), (n8 : Int)⟩, ⟨tyL, (List.take (Int.toNat (↑(List.length l9) : Int) - (1 : Nat)) (List.drop (1 : Nat) l9) : List (List Int))⟩]
                                                                                                              else
                                                                                                                bif (List.getD (List.getD l9 (0 : Nat) []) (0 : Nat) (0 : Int) == (97 : Int)) then
                                                                                                                  RL SSg [tyA] n 13 0 nx m [⟨(.int .u8), ((1 : Int) : Int)⟩, ⟨(.int .u8), ((15 : Int) : Int)⟩, ⟨(.int .u8), ((0 : Int) : Int)⟩, ⟨(.int .u8), ((0 : Int) : Int)⟩, ⟨(.int .u8), (n4 : Int)⟩, ⟨(.int .u8), (n5 : Int)⟩, ⟨(.int .u8), (n6 : Int)⟩, ⟨(.int .u8), (n7 : Int)⟩, ⟨(.int .u16), (n8 : Int)⟩, ⟨tyL, (List.take (Int.toNat (↑(List.length l9) : Int) - (1 : Nat)) (List.drop (1 : Nat) l9) : List (List Int))⟩]
                                                                                                                else
                                                                                                                  bif (List.getD (List.getD l9 (0 : Nat) []) (0 : Nat) (0 : Int) == (47 : Int)) then
                                                                                                                    RL SSg [tyA] n 13 0 nx m [⟨(.int .u8), (n0 : Int)⟩, ⟨(.int .u8), (n1 : Int)⟩, ⟨(.int .u8), (n2 : Int)⟩, ⟨(.int .u8), (n3 : Int)⟩, ⟨(.int .u8), ((1 : Int) : Int)⟩, ⟨(.int .u8), ((7 : Int) : Int)⟩, ⟨(.int .u8), ((0 : Int) : Int)⟩, ⟨(.int .u8), ((0 : Int) : Int)⟩, ⟨(.int .u16), (n8 : Int)⟩, ⟨tyL, (List.take (Int.toNat (↑(List.length l9) : Int) - (1 : Nat)) (List.drop (1 : Nat) l9) : List (List Int))⟩]
                                                                                                                  else
                                                                                                                    bif (List.getD (List.getD l9 (0 : Nat) []) (0 : Nat) (0 : Int) == (107 : Int)) then
                                                                                                                      RL SSg [tyA] n 13 0 nx m [⟨(.int .u8), (n0 : Int)⟩, ⟨(.int .u8), (n1 : Int)⟩, ⟨(.int .u8), (n2 : Int)⟩, ⟨(.int .u8), (n3 : Int)⟩, ⟨(.int .u8), ((1 : Int) : Int)⟩, ⟨(.int .u8), ((15 : Int) : Int)⟩, ⟨(.int .u8), ((0 : Int) : Int)⟩, ⟨(.int .u8), ((0 : Int) : Int)⟩, ⟨(.int .u16), (n8 : Int)⟩, ⟨tyL, (List.take (Int.toNat (↑(List.length l9) : Int) - (1 : Nat)) (List.drop (1 : Nat) l9) : List (List Int))⟩]
                                                                                                                    else
                                                                                                                      RL SSg [tyA] n 13 0 nx m [⟨(.int .u8), (n0 : Int)⟩, ⟨(.int .u8), (n1 : Int)⟩, ⟨(.int .u8), (n2 : Int)⟩, ⟨(.int .u8), (n3 : Int)⟩, ⟨(.int .u8), (n4 : Int)⟩, ⟨(.int .u8), (n5 : Int)⟩, ⟨(.int .u8), (n6 : Int)⟩, ⟨(.int .u8), (n7 : Int)⟩, ⟨(.int .u16), (n8 : Int)⟩, ⟨tyL, (List.take (Int.toNat (↑(List.length l9) : Int) - (1 : Nat)) (List.drop (1 : Nat) l9) : List (List Int))⟩]
          else
            need (decide ((0 : Int) < (↑(List.length (List.getD l9 (0 : Nat) [])) : Int))) <|
            need (decide ((0 : Nat) < List.length (List.getD l9 (0 : Nat) []))) <|
            bif (List.getD (List.getD l9 (0 : Nat) []) (0 : Nat) (0 : Int) == (48 : Int)) then
              need (decide ((0 : Int) < (↑(List.length (List.getD l9 (0 : Nat) [])) : Int))) <|
              need (decide ((0 : Nat) < List.length (List.getD l9 (0 : Nat) []))) <|
              need (decide (List.length (List.take (Int.toNat (↑(List.length l9) : Int) - (1 : Nat)) (List.drop (1 : Nat) l9)) ≤ (1000000 : Nat))) <|
              need (allB (List.take (Int.toNat (↑(List.length l9) : Int) - (1 : Nat)) (List.drop (1 : Nat) l9))) <|
              RL SSg [tyA] n 13 0 nx m [⟨(.int .u8), (Prod.fst (Prod.fst (Prod.fst (behF ((n0, n1, n2, n3, ()), (n4, n5, n6, n7, ()), n8, ()) (List.getD (List.getD l9 (0 : Nat) []) (0 : Nat) (0 : Int)) (List.take (Int.toNat (↑(List.length l9) : Int) - (1 : Nat)) (List.drop (1 : Nat) l9))))) : Int)⟩, ⟨(.int .u8), (Prod.fst (Prod.snd (Prod.fst (Prod.fst (behF ((n0, n1, n2, n3, ()), (n4, n5, n6, n7, ()), n8, ()) (List.getD (List.getD l9 (0 : Nat) []) (0 : Nat) (0 : Int)) (List.take (Int.toNat (↑(List.length l9) : Int) - (1 : Nat)) (List.drop (1 : Nat) l9)))))) : Int)⟩, ⟨(.int .u8), (Prod.fst (Prod.snd (Prod.snd (Prod.fst (Prod.fst (behF ((n0, n1, n2, n3, ()), (n4, n5, n6, n7, ()), n8, ()) (List.getD (List.getD l9 (0 : Nat) []) (0 : Nat) (0 : Int)) (List.take (Int.toNat (↑(List.length l9) : Int) - (1 : Nat)) (List.drop (1 : Nat) l9))))))) : Int)⟩, ⟨(.int .u8), (Prod.fst (Prod.snd (Prod.snd (Prod.snd (Prod.fst (Prod.fst (behF ((n0, n1, n2, n3, ()), (n4, n5, n6, n7, ()), n8, ()) (List.getD (List.getD l9 (0 : Nat) []) (0 : Nat) (0 : Int)) (List.take (Int.toNat (↑(List.length l9) : Int) - (1 : Nat)) (List.drop (1 : Nat) l9)))))))) : Int)⟩, ⟨(.int .u8), (Prod.fst (Prod.fst (Prod.snd (Prod.fst (behF ((n0, n1, n2, n3, ()), (n4, n5, n6, n7, ()), n8, ()) (List.getD (List.getD l9 (0 : Nat) []) (0 : Nat) (0 : Int)) (List.take (Int.toNat (↑(List.length l9) : Int) - (1 : Nat)) (List.drop (1 : Nat) l9)))))) : Int)⟩, ⟨(.int .u8), (Prod.fst (Prod.snd (Prod.fst (Prod.snd (Prod.fst (behF ((n0, n1, n2, n3, ()), (n4, n5, n6, n7, ()), n8, ()) (List.getD (List.getD l9 (0 : Nat) []) (0 : Nat) (0 : Int)) (List.take (Int.toNat (↑(List.length l9) : Int) - (1 : Nat)) (List.drop (1 : Nat) l9))))))) : Int)⟩, ⟨(.int .u8), (Prod.fst (Prod.snd (Prod.snd (Prod.fst (Prod.snd (Prod.fst (behF ((n0, n1, n2, n3, ()), (n4, n5, n6, n7, ()), n8, ()) (List.getD (List.getD l9 (0 : Nat) []) (0 : Nat) (0 : Int)) (List.take (Int.toNat (↑(List.length l9) : Int) - (1 : Nat)) (List.drop (1 : Nat) l9)))))))) : Int)⟩, ⟨(.int .u8), (Prod.fst (Prod.snd (Prod.snd (Prod.snd (Prod.fst (Prod.snd (Prod.fst (behF ((n0, n1, n2, n3, ()), (n4, n5, n6, n7, ()), n8, ()) (List.getD (List.getD l9 (0 : Nat) []) (0 : Nat) (0 : Int)) (List.take (Int.toNat (↑(List.length l9) : Int) - (1 : Nat)) (List.drop (1 : Nat) l9))))))))) : Int)⟩, ⟨(.int .u16), (Prod.fst (Prod.snd (Prod.snd (Prod.fst (behF ((n0, n1, n2, n3, ()), (n4, n5, n6, n7, ()), n8, ()) (List.getD (List.getD l9 (0 : Nat) []) (0 : Nat) (0 : Int)) (List.take (Int.toNat (↑(List.length l9) : Int) - (1 : Nat)) (List.drop (1 : Nat) l9)))))) : Int)⟩, ⟨tyL, (Prod.snd (behF ((n0, n1, n2, n3, ()), (n4, n5, n6, n7, ()), n8, ()) (List.getD (List.getD l9 (0 : Nat) []) (0 : Nat) (0 : Int)) (List.take (Int.toNat (↑(List.length l9) : Int) - (1 : Nat)) (List.drop (1 : Nat) l9))) : List (List Int))⟩]
            else
              need (decide ((0 : Int) < (↑(List.length (List.getD l9 (0 : Nat) [])) : Int))) <|
              need (decide ((0 : Nat) < List.length (List.getD l9 (0 : Nat) []))) <|
              bif (List.getD (List.getD l9 (0 : Nat) []) (0 : Nat) (0 : Int) == (-1 : Int)) then
                RL SSg [tyA] n 13 0 nx m [⟨(.int .u8), ((0 : Int) : Int)⟩, ⟨(.int .u8), ((0 : Int) : Int)⟩, ⟨(.int .u8), ((0 : Int) : Int)⟩, ⟨(.int .u8), ((0 : Int) : Int)⟩, ⟨(.int .u8), ((0 : Int) : Int)⟩, ⟨(.int .u8), ((0 : Int) : Int)⟩, ⟨(.int .u8), ((0 : Int) : Int)⟩, ⟨(.int .u8), ((0 : Int) : Int)⟩, ⟨(.int .u16), ((0 : Int) : Int)⟩, ⟨tyL, (List.take (Int.toNat (↑(List.length l9) : Int) - (1 : Nat)) (List.drop (1 : Nat) l9) : List (List Int))⟩]
              else
                bif (List.getD (List.getD l9 (0 : Nat) []) (0 : Nat) (0 : Int) == (0 : Int)) then
                  RL SSg [tyA] n 13 0 nx m [⟨(.int .u8), ((0 : Int) : Int)⟩, ⟨(.int .u8), ((0 : Int) : Int)⟩, ⟨(.int .u8), ((0 : Int) : Int)⟩, ⟨(.int .u8), ((0 : Int) : Int)⟩, ⟨(.int .u8), ((0 : Int) : Int)⟩, ⟨(.int .u8), ((0 : Int) : Int)⟩, ⟨(.int .u8), ((0 : Int) : Int)⟩, ⟨(.int .u8), ((0 : Int) : Int)⟩, ⟨(.int .u16), ((0 : Int) : Int)⟩, ⟨tyL, (List.take (Int.toNat (↑(List.length l9) : Int) - (1 : Nat)) (List.drop (1 : Nat) l9) : List (List Int))⟩]
                else
                  bif (List.getD (List.getD l9 (0 : Nat) []) (0 : Nat) (0 : Int) == (22 : Int)) then
                    RL SSg [tyA] n 13 0 nx m [⟨(.int .u8), (n0 : Int)⟩, ⟨(.int .u8), (n1 : Int)⟩, ⟨(.int .u8), (n2 : Int)⟩, ⟨(.int .u8), (n3 : Int)⟩, ⟨(.int .u8), (n4 : Int)⟩, ⟨(.int .u8), (n5 : Int)⟩, ⟨(.int .u8), (n6 : Int)⟩, ⟨(.int .u8), (n7 : Int)⟩, ⟨(.int .u16), (orF (clrL [(1 : Int), (2 : Int)] n8) (0 : Int) : Int)⟩, ⟨tyL, (List.take (Int.toNat (↑(List.length l9) : Int) - (1 : Nat)) (List.drop (1 : Nat) l9) : List (List Int))⟩]
                  else
                    bif (List.getD (List.getD l9 (0 : Nat) []) (0 : Nat) (0 : Int) == (39 : Int)) then
                      RL SSg [tyA] n 13 0 nx m [⟨(.int .u8), ((0 : Int) : Int)⟩, ⟨(.int .u8), ((0 : Int) : Int)⟩, ⟨(.int .u8), ((0 : Int) : Int)⟩, ⟨(.int .u8), ((0 : Int) : Int)⟩, ⟨(.int .u8), (n4 : Int)⟩, ⟨(.int .u8), (n5 : Int)⟩, ⟨(.int .u8), (n6 : Int)⟩, ⟨(.int .u8), (n7 : Int)⟩, ⟨(.int .u16), (n8 : Int)⟩, ⟨tyL, (List.take (Int.toNat (↑(List.length l9) : Int) - (1 : Nat)) (List.drop (1 : Nat) l9) : List (List Int))⟩]
                    else
                      bif (List.getD (List.getD l9 (0 : Nat) []) (0 : Nat) (0 : Int) == (49 : Int)) then
                        RL SSg [tyA] n 13 0 nx m [⟨(.int .u8), (n0 : Int)⟩, ⟨(.int .u8), (n1 : Int)⟩, ⟨(.int .u8), (n2 : Int)⟩, ⟨(.int .u8), (n3 : Int)⟩, ⟨(.int .u8), ((0 : Int) : Int)⟩, ⟨(.int .u8), ((0 : Int) : Int)⟩, ⟨(.int .u8), ((0 : Int) : Int)⟩, ⟨(.int .u8), ((0 : Int) : Int)⟩, ⟨(.int .u16), (n8 : Int)⟩, ⟨tyL, (List.take (Int.toNat (↑(List.length l9) : Int) - (1 : Nat)) (List.drop (1 : Nat) l9) : List (List Int))⟩]
                      else
                        bif (List.getD (List.getD l9 (0 : Nat) []) (0 : Nat) (0 : Int) == (1 : Int)) then
                          RL SSg [tyA] n 13 0 nx m [⟨(.int .u8), (n0 : Int)⟩, ⟨(.int .u8), (n1 : Int)⟩, ⟨(.int .u8), (n2 : Int)⟩, ⟨(.int .u8), (n3 : Int)⟩, ⟨(.int .u8), (n4 : Int)⟩, ⟨(.int .u8), (n5 : Int)⟩, ⟨(.int .u8), (n6 : Int)⟩, ⟨(.int .u8), (n7 : Int)⟩, ⟨(.int .u16), (orF (clrL [] n8) (1 : Int) : Int)⟩, ⟨tyL, (List.take (Int.toNat (↑(List.length l9) : Int) - (1 : Nat)) (List.drop (1 : Nat) l9) : List (List Int))⟩]
                        else
                          bif (List.getD (List.getD l9 (0 : Nat) []) (0 : Nat) (0 : Int) == (2 : Int)) then
                            RL SSg [tyA] n 13 0 nx m [⟨(.int .u8), (n0 : Int)⟩, ⟨(.int .u8), (n1 : Int)⟩, ⟨(.int .u8), (n2 : Int)⟩, ⟨(.int .u8), (n3 : Int)⟩, ⟨(.int .u8), (n4 : Int)⟩, ⟨(.int .u8), (n5 : Int)⟩, ⟨(.int .u8), (n6 : Int)⟩, ⟨(.int .u8), (n7 : Int)⟩, ⟨(.int .u16), (orF (clrL [] n8) (2 : Int) : Int)⟩, ⟨tyL, (List.take (Int.toNat (↑(List.length l9) : Int) - (1 : Nat)) (List.drop (1 : Nat) l9) : List (List Int))⟩]
                          else
                            bif (List.getD (List.getD l9 (0 : Nat) []) (0 : Nat) (0 : Int) == (3 : Int)) then
                              RL SSg [tyA] n 13 0 nx m [⟨(.int .u8), (n0 : Int)⟩, ⟨(.int .u8), (n1 : Int)⟩, ⟨(.int .u8), (n2 : Int)⟩, ⟨(.int .u8), (n3 : Int)⟩, ⟨(.int .u8), (n4 : Int)⟩, ⟨(.int .u8), (n5 : Int)⟩, ⟨(.int .u8), (n6 : Int)⟩, ⟨(.int .u8), (n7 : Int)⟩, ⟨(.int .u16), (orF (clrL [] n8) (4 : Int) : Int)⟩, ⟨tyL, (List.take (Int.toNat (↑(List.length l9) : Int) - (1 : Nat)) (List.drop (1 : Nat) l9) : List (List Int))⟩]
                            else
                              bif (List.getD (List.getD l9 (0 : Nat) []) (0 : Nat) (0 : Int) == (23 : Int)) then
                                RL SSg [tyA] n 13 0 nx m [⟨(.int .u8), (n0 : Int)⟩, ⟨(.int .u8), (n1 : Int)⟩, ⟨(.int .u8), (n2 : Int)⟩, ⟨(.int .u8), (n3 : Int)⟩, ⟨(.int .u8), (n4 : Int)⟩, ⟨(.int .u8), (n5 : Int)⟩, ⟨(.int .u8), (n6 : Int)⟩, ⟨(.int .u8), (n7 : Int)⟩, ⟨(.int .u16), (orF (clrL [(4 : Int)] n8) (0 : Int) : Int)⟩, ⟨tyL, (List.take (Int.toNat (↑(List.length l9) : Int) - (1 : Nat)) (List.drop (1 : Nat) l9) : List (List Int))⟩]
                              else
                                bif (List.getD (List.getD l9 (0 : Nat) []) (0 : Nat) (0 : Int) == (4 : Int)) then
                                  RL SSg [tyA] n 13 0 nx m [⟨(.int .u8), (n0 : Int)⟩, ⟨(.int .u8), (n1 : Int)⟩, ⟨(.int .u8), (n2 : Int)⟩, ⟨(.int .u8), (n3 : Int)⟩, ⟨(.int .u8), (n4 : Int)⟩, ⟨(.int .u8), (n5 : Int)⟩, ⟨(.int .u8), (n6 : Int)⟩, ⟨(.int .u8), (n7 : Int)⟩, ⟨(.int .u16), (orF (clrL [(264 : Int)] n8) (8 : Int) : Int)⟩, ⟨tyL, (List.take (Int.toNat (↑(List.length l9) : Int) - (1 : Nat)) (List.drop (1 : Nat) l9) : List (List Int))⟩]
                                else
                                  bif (List.getD (List.getD l9 (0 : Nat) []) (0 : Nat) (0 : Int) == (24 : Int)) then
                                    RL SSg [tyA] n 13 0 nx m [⟨(.int .u8), (n0 : Int)⟩, ⟨(.int .u8), (n1 : Int)⟩, ⟨(.int .u8), (n2 : Int)⟩, ⟨(.int .u8), (n3 : Int)⟩, ⟨(.int .u8), (n4 : Int)⟩, ⟨(.int .u8), (n5 : Int)⟩, ⟨(.int .u8), (n6 : Int)⟩, ⟨(.int .u8), (n7 : Int)⟩, ⟨(.int .u16), (orF (clrL [(264 : Int)] n8) (0 : Int) : Int)⟩, ⟨tyL, (List.take (Int.toNat (↑(List.length l9) : Int) - (1 : Nat)) (List.drop (1 : Nat) l9) : List (List Int))⟩]
                                  else
                                    bif (List.getD (List.getD l9 (0 : Nat) []) (0 : Nat) (0 : Int) == (5 : Int)) then
                                      RL SSg [tyA] n 13 0 nx m [⟨(.int .u8), (n0 : Int)⟩, ⟨(.int .u8), (n1 : Int)⟩, ⟨(.int .u8), (n2 : Int)⟩, ⟨(.int .u8), (n3 : Int)⟩, ⟨(.int .u8), (n4 : Int)⟩, ⟨(.int .u8), (n5 : Int)⟩, ⟨(.int .u8), (n6 : Int)⟩, ⟨(.int .u8), (n7 : Int)⟩, ⟨(.int .u16), (orF (clrL [] n8) (16 : Int) : Int)⟩, ⟨tyL, (List.take (Int.toNat (↑(List.length l9) : Int) - (1 : Nat)) (List.drop (1 : Nat) l9) : List (List Int))⟩]
                                    else
                                      bif (List.getD (List.getD l9 (0 : Nat) []) (0 : Nat) (0 : Int) == (25 : Int)) then
                                        RL SSg [tyA] n 13 0 nx m [⟨(.int .u8), (n0 : Int)⟩, ⟨(.int .u8), (n1 : Int)⟩, ⟨(.int .u8), (n2 : Int)⟩, ⟨(.int .u8), (n3 : Int)⟩, ⟨(.int .u8), (n4 : Int)⟩, ⟨(.int .u8), (n5 : Int)⟩, ⟨(.int .u8), (n6 : Int)⟩, ⟨(.int .u8), (n7 : Int)⟩, ⟨(.int .u16), (orF (clrL [(16 : Int)] n8) (0 : Int) : Int)⟩, ⟨tyL, (List.take (Int.toNat (↑(List.length l9) : Int) - (1 : Nat)) (List.drop (1 : Nat) l9) : List (List Int))⟩]
                                      else
                                        bif (List.getD (List.getD l9 (0 : Nat) []) (0 : Nat) (0 : Int) == (7 : Int)) then
                                          RL SSg [tyA] n 13 0 nx m [⟨(.int .u8), (n0 : Int)⟩, ⟨(.int .u8), (n1 : Int)⟩, ⟨(.int .u8), (n2 : Int)⟩, ⟨(.int .u8), (n3 : Int)⟩, ⟨(.int .u8), (n4 : Int)⟩, ⟨(.int .u8), (n5 : Int)⟩, ⟨(.int .u8), (n6 : Int)⟩, ⟨(.int .u8), (n7 : Int)⟩, ⟨(.int .u16), (orF (clrL [] n8) (32 : Int) : Int)⟩, ⟨tyL, (List.take (Int.toNat (↑(List.length l9) : Int) - (1 : Nat)) (List.drop (1 : Nat) l9) : List (List Int))⟩]
                                        else
                                          bif (List.getD (List.getD l9 (0 : Nat) []) (0 : Nat) (0 : Int) == (27 : Int)) then
                                            RL SSg [tyA] n 13 0 nx m [⟨(.int .u8), (n0 : Int)⟩, ⟨(.int .u8), (n1 : Int)⟩, ⟨(.int .u8), (n2 : Int)⟩, ⟨(.int .u8), (n3 : Int)⟩, ⟨(.int .u8), (n4 : Int)⟩, ⟨(.int .u8), (n5 : Int)⟩, ⟨(.int .u8), (n6 : Int)⟩, ⟨(.int .u8), (n7 : Int)⟩, ⟨(.int .u16), (orF (clrL [(32 : Int)] n8) (0 : Int) : Int)⟩, ⟨tyL, (List.take (Int.toNat (↑(List.length l9) : Int) - (1 : Nat)) (List.drop (1 : Nat) l9) : List (List Int))⟩]
                                          else
                                            bif (List.getD (List.getD l9 (0 : Nat) []) (0 : Nat) (0 : Int) == (8 : Int)) then
                                              RL SSg [tyA] n 13 0 nx m [⟨(.int .u8), (n0 : Int)⟩, ⟨(.int .u8), (n1 : Int)⟩, ⟨(.int .u8), (n2 : Int)⟩, ⟨(.int .u8), (n3 : Int)⟩, ⟨(.int .u8), (n4 : Int)⟩, ⟨(.int .u8), (n5 : Int)⟩, ⟨(.int .u8), (n6 : Int)⟩, ⟨(.int .u8), (n7 : Int)⟩, ⟨(.int .u16), (orF (clrL [] n8) (64 : Int) : Int)⟩, ⟨tyL, (List.take (Int.toNat (↑(List.length l9) : Int) - (1 : Nat)) (List.drop (1 : Nat) l9) : List (List Int))⟩]
                                            else
                                              bif (List.getD (List.getD l9 (0 : Nat) []) (0 : Nat) (0 : Int) == (28 : Int)) then
                                                RL SSg [tyA] n 13 0 nx m [⟨(.int .u8), (n0 : Int)⟩, ⟨(.int .u8), (n1 : Int)⟩, ⟨(.int .u8), (n2 : Int)⟩, ⟨(.int .u8), (n3 : Int)⟩, ⟨(.int .u8), (n4 : Int)⟩, ⟨(.int .u8), (n5 : Int)⟩, ⟨(.int .u8), (n6 : Int)⟩, ⟨(.int .u8), (n7 : Int)⟩, ⟨(.int .u16), (orF (clrL [(64 : Int)] n8) (0 : Int) : Int)⟩, ⟨tyL, (List.take (Int.toNat (↑(List.length l9) : Int) - (1 : Nat)) (List.drop (1 : Nat) l9) : List (List Int))⟩]
                                              else
                                                bif (List.getD (List.getD l9 (0 : Nat) []) (0 : Nat) (0 : Int) == (9 : Int)) then
                                                  RL SSg [tyA] n 13 0 nx m [⟨(.int .u8), (n0 : Int)⟩, ⟨(.int .u8), (n1 : Int)⟩, ⟨(.int .u8), (n2 : Int)⟩, ⟨(.int .u8), (n3 : Int)⟩, ⟨(.int .u8), (n4 : Int)⟩, ⟨(.int .u8), (n5 : Int)⟩, ⟨(.int .u8), (n6 : Int)⟩, ⟨(.int .u8), (n7 : Int)⟩, ⟨(.int .u16), (orF (clrL [] n8) (128 : Int) : Int)⟩, ⟨tyL, (List.take (Int.toNat (↑(List.length l9) : Int) - (1 : Nat)) (List.drop (1 : Nat) l9) : List (List Int))⟩]
                                                else
                                                  bif (List.getD (List.getD l9 (0 : Nat) []) (0 : Nat) (0 : Int) == (29 : Int)) then
                                                    RL SSg [tyA] n 13 0 nx m [⟨(.int .u8), (n0 : Int)⟩, ⟨(.int .u8), (n1 : Int)⟩, ⟨(.int .u8), (n2 : Int)⟩, ⟨(.int .u8), (n3 : Int)⟩, ⟨(.int .u8), (n4 : Int)⟩, ⟨(.int .u8), (n5 : Int)⟩, ⟨(.int .u8), (n6 : Int)⟩, ⟨(.int .u8), (n7 : Int)⟩, ⟨(.int .u16), (orF (clrL [(128 : Int)] n8) (0 : Int) : Int)⟩, ⟨tyL, (List.take (Int.toNat (↑(List.length l9) : Int) - (1 : Nat)) (List.drop (1 : Nat) l9) : List (List Int))⟩]
                                                  else
                                                    bif (List.getD (List.getD l9 (0 : Nat) []) (0 : Nat) (0 : Int) == (21 : Int)) then
                                                      RL SSg [tyA] n 13 0 nx m [⟨(.int .u8), (n0 : Int)⟩, ⟨(.int .u8), (n1 : Int)⟩, ⟨(.int .u8), (n2 : Int)⟩, ⟨(.int .u8), (n3 : Int)⟩, ⟨(.int .u8), (n4 : Int)⟩, ⟨(.int .u8), (n5 : Int)⟩, ⟨(.int .u8), (n6 : Int)⟩, ⟨(.int .u8), (n7 : Int)⟩, ⟨(.int .u16), (orF (clrL [(264 : Int)] n8) (256 : Int) : Int)⟩, ⟨tyL, (List.take (Int.toNat (↑(List.length l9) : Int) - (1 : Nat)) (List.drop (1 : Nat) l9) : List (List Int))⟩]
                                                    else
                                                      bif (List.getD (List.getD l9 (0 : Nat) []) (0 : Nat) (0 : Int) == (30 : Int)) then
                                                        RL SSg [tyA] n 13 0 nx m [⟨(.int .u8), ((1 : Int) : Int)⟩, ⟨(.int .u8), ((0 : Int) : Int)⟩, ⟨(.int .u8), ((0 : Int) : Int)⟩, ⟨(.int .u8), ((0 : Int) : Int)⟩, ⟨(.int .u8), (n4 : Int)⟩, ⟨(.int .u8), (n5 : Int)⟩, ⟨(.int .u8), (n6 : Int)⟩, ⟨(.int .u8), (n7 : Int)⟩, ⟨(.int .u16), (n8 : Int)⟩, ⟨tyL, (List.take (Int.toNat (↑(List.length l9) : Int) - (1 : Nat)) (List.drop (1 : Nat) l9) : List (List Int))⟩]
                                                      else
                                                        bif (List.getD (List.getD l9 (0 : Nat) []) (0 : Nat) (0 : Int) == (90 : Int)) then
                                                          RL SSg [tyA] n 13 0 nx m [⟨(.int .u8), ((1 : Int) : Int)⟩, ⟨(.int .u8), ((8 : Int) : Int)⟩, ⟨(.int .u8), ((0 : Int) : Int)⟩, ⟨(.int .u8), ((0 : Int) : Int)⟩, ⟨(.int .u8), (n4 : Int)⟩, ⟨(.int .u8), (n5 : Int)⟩, ⟨(.int .u8), (n6 : Int)⟩, ⟨(.int .u8), (n7 : Int)⟩, ⟨(.int .u16), (n8 : Int)⟩, ⟨tyL, (List.take (Int.toNat (↑(List.length l9) : Int) - (1 : Nat)) (List.drop (1 : Nat) l9) : List (List Int))⟩]
                                                        else
                                                          bif (List.getD (List.getD l9 (0 : Nat) []) (0 : Nat) (0 : Int) == (40 : Int)) then
                                                            RL SSg [tyA] n 13 0 nx m [⟨(.int .u8), (n0 : Int)⟩, ⟨(.int .u8), (n1 : Int)⟩, ⟨(.int .u8), (n2 : Int)⟩, ⟨(.int .u8), (n3 : Int)⟩, ⟨(.int .u8), ((1 : Int) : Int)⟩, ⟨(.int .u8), ((0 : Int) : Int)⟩, ⟨(.int .u8), ((0 : Int) : Int)⟩, ⟨(.int .u8), ((0 : Int) : Int)⟩, ⟨(.int .u16), (n8 : Int)⟩, ⟨tyL, (List.take (Int.toNat (↑(List.length l9) : Int) - (1 : Nat)) (List.drop (1 : Nat) l9) : List (List Int))⟩]
                                                          else
                                                            bif (List.getD (List.getD l9 (0 : Nat) []) (0 : Nat) (0 : Int) == (100 : Int)) then
                                                              RL SSg [tyA] n 13 0 nx m [⟨(.int .u8), (n0 : Int)⟩, ⟨(.int .u8), (n1 : Int)⟩, ⟨(.int .u8), (n2 : Int)⟩, ⟨(.int .u8), (n3 : Int)⟩, ⟨(.int .u8), ((1 : Int) : Int)⟩, ⟨(.int .u8), ((8 : Int) : Int)⟩, ⟨(.int .u8), ((0 : Int) : Int)⟩, ⟨(.int .u8), ((0 : Int) : Int)⟩, ⟨(.int .u16), (n8 : Int)⟩, ⟨tyL, (List.take (Int.toNat (↑(List.length l9) : Int) - (1 : Nat)) (List.drop (1 : Nat) l9) : List (List Int))⟩]
                                                            else
                                                              bif (List.getD (List.getD l9 (0 : Nat) []) (0 : Nat) (0 : Int) == (31 : Int)) then
                                                                RL SSg [tyA] n 13 0 nx m [⟨(.int .u8), ((1 : Int) : Int)⟩, ⟨(.int .u8), ((1 : Int) : Int)⟩, ⟨(.int .u8), ((0 : Int) : Int)⟩, ⟨(.int .u8), ((0 : Int) : Int)⟩, ⟨(.int .u8), (n4 : Int)⟩, ⟨(.int .u8), (n5 : Int)⟩, ⟨(.int .u8), (n6 : Int)⟩, ⟨(.int .u8), (n7 : Int)⟩, ⟨(.int .u16), (n8 : Int)⟩, ⟨tyL, (List.take (Int.toNat (↑(List.length l9) : Int) - (1 : Nat)) (List.drop (1 : Nat) l9) : List (List Int))⟩]
                                                              else
                                                                bif (List.getD (List.getD l9 (0 : Nat) []) (0 : Nat) (0 : Int) == (91 : Int)) then
                                                                  RL SSg [tyA] n 13 0 nx m [⟨(.int .u8), ((1 : Int) : Int)⟩, ⟨(.int .u8), ((9 : Int) : Int)⟩, ⟨(.int .u8), ((0 : Int) : Int)⟩, ⟨(.int .u8), ((0 : Int) : Int)⟩, ⟨(.int .u8), (n4 : Int)⟩, ⟨(.int .u8), (n5 : Int)⟩, ⟨(.int .u8), (n6 : Int)⟩, ⟨(.int .u8), (n7 : Int)⟩, ⟨(.int .u16), (n8 : Int)⟩, ⟨tyL, (List.take (Int.toNat (↑(List.length l9) : Int) - (1 : Nat)) (List.drop (1 : Nat) l9) : List (List Int))⟩]
                                                                else
                                                                  bif (List.getD (List.getD l9 (0 : Nat) []) (0 : Nat) (0 : Int) == (41 : Int)) then
                                                                    RL SSg [tyA] n 13 0 nx m [⟨(.int .u8), (n0 : Int)⟩, ⟨(.int .u8), (n1 : Int)⟩, ⟨(.int .u8), (n2 : Int)⟩, ⟨(.int .u8), (n3 : Int)⟩, ⟨(.int .u8), ((1 : Int) : Int)⟩, ⟨(.int .u8), ((1 : Int) : Int)⟩, ⟨(.int .u8), ((0 : Int) : Int)⟩, ⟨(.int .u8), ((0 : Int) : Int)⟩, ⟨(.int .u16), (n8 : Int)⟩, ⟨tyL, (List.take (Int.toNat (↑(List.length l9) : Int) - (1 : Nat)) (List.drop (1 : Nat) l9) : List (List Int))⟩]
                                                                  else
                                                                    bif (List.getD (List.getD l9 (0 : Nat) []) (0 : Nat) (0 : Int) == (101 : Int)) then
                                                                      RL SSg [tyA] n 13 0 nx m [⟨(.int .u8), (n0 : Int)⟩, ⟨(.int .u8), (n1 : Int)⟩, ⟨(.int .u8), (n2 : Int)⟩, ⟨(.int .u8), (n3 : Int)⟩, ⟨(.int .u8), ((1 : Int) : Int)⟩, ⟨(.int .u8), ((9 : Int) : Int)⟩, ⟨(.int .u8), ((0 : Int) : Int)⟩, ⟨(.int .u8), ((0 : Int) : Int)⟩, ⟨(.int .u16), (n8 : Int)⟩, ⟨tyL, (List.take (Int.toNat (↑(List.length l9) : Int) - (1 : Nat)) (List.drop (1 : Nat) l9) : List (List Int))⟩]
                                                                    else
                                                                      bif (List.getD (List.getD l9 (0 : Nat) []) (0 : Nat) (0 : Int) == (32 : Int)) then
                                                                        RL SSg [tyA] n 13 0 nx m [⟨(.int .u8), ((1 : Int) : Int)⟩, ⟨(.int .u8), ((2 : Int) : Int)⟩, ⟨(.int .u8), ((0 : Int) : Int)⟩, ⟨(.int .u8), ((0 : Int) : Int)⟩, ⟨(.int .u8), (n4 : Int)⟩, ⟨(.int .u8), (n5 : Int)⟩, ⟨(.int .u8), (n6 : Int)⟩, ⟨(.int .u8), (n7 : Int)⟩, ⟨(.int .u16), (n8 : Int)⟩, ⟨tyL, (List.take (Int.toNat (↑(List.length l9) : Int) - (1 : Nat)) (List.drop (1 : Nat) l9) : List (List Int))⟩]
                                                                      else
                                                                        bif (List.getD (List.getD l9 (0 : Nat) []) (0 : Nat) (0 : Int) == (92 : Int)) then
                                                                          RL SSg [tyA] n 13 0 nx m [⟨(.int .u8), ((1 : Int) : Int)⟩, ⟨(.int .u8), ((10 : Int) : Int)⟩, ⟨(.int .u8), ((0 : Int) : Int)⟩, ⟨(.int .u8), ((0 : Int) : Int)⟩, ⟨(.int .u8), (n4 : Int)⟩, ⟨(.int .u8), (n5 : Int)⟩, ⟨(.int .u8), (n6 : Int)⟩, ⟨(.int .u8), (n7 : Int)⟩, ⟨(.int .u16), (n8 : Int)⟩, ⟨tyL, (List.take (Int.toNat (↑(List.length l9) : Int) - (1 : Nat)) (List.drop (1 : Nat) l9) : List (List Int))⟩]
                                                                        else
                                                                          bif (List.getD (List.getD l9 (0 : Nat) []) (0 : Nat) (0 : Int) == (42 : Int)) then
                                                                            RL SSg [tyA] n 13 0 nx m [⟨(.int .u8), (n0 : Int)⟩, ⟨(.int .u8), (n1 : Int)⟩, ⟨(.int .u8), (n2 : Int)⟩, ⟨(.int .u8), (n3 : Int)⟩, ⟨(.int .u8), ((1 : Int) : Int)⟩, ⟨(.int .u8), ((2 : Int) : Int)⟩, ⟨(.int .u8), ((0 : Int) : Int)⟩, ⟨(.int .u8), ((0 : Int) : Int)⟩, ⟨(.int .u16), (n8 : Int)⟩, ⟨tyL, (List.take (Int.toNat (↑(List.length l9) : Int) - (1 : Nat)) (List.drop (1 : Nat) l9) : List (List Int))⟩]
                                                                          else
                                                                            bif (List.getD (List.getD l9 (0 : Nat) []) (0 : Nat) (0 : Int) == (102 : Int)) then
                                                                              RL SSg [tyA] n 13 0 nx m [⟨(.int .u8), (n0 : Int)⟩, ⟨(.int .u8), (n1 : Int)⟩, ⟨(.int .u8), (n2 : Int)⟩, ⟨(.int .u8), (n3 : Int)⟩, ⟨(.int .u8), ((1 : Int) : Int)⟩, ⟨(.int .u8), ((10 : Int) : Int)⟩, ⟨(.int .u8), ((0 : Int) : Int)⟩, ⟨(.int .u8), ((0 : Int) : Int)⟩, ⟨(.int .u16), (n8 : Int)⟩, ⟨tyL, (List.take (Int.toNat (↑(List.length l9) : Int) - (1 : Nat)) (List.drop (1 : Nat) l9) : List (List Int))⟩]
                                                                            else
                                                                              bif (List.getD (List.getD l9 (0 : Nat) []) (0 : Nat) (0 : Int) == (33 : Int)) then
                                                                                RL SSg [tyA] n 13 0 nx m [⟨(.int .u8), ((1 : Int) : Int)⟩, ⟨(.int .u8), ((3 : Int) : Int)⟩, ⟨(.int .u8), ((0 : Int) : Int)⟩, ⟨(.int .u8), ((0 : Int) : Int)⟩, ⟨(.int .u8), (n4 : Int)⟩, ⟨(.int .u8), (n5 : Int)⟩, ⟨(.int .u8), (n6 : Int)⟩, ⟨(.int .u8), (n7 : Int)⟩, ⟨(.int .u16), (n8 : Int)⟩, ⟨tyL, (List.take (Int.toNat (↑(List.length l9) : Int) - (1 : Nat)) (List.drop (1 : Nat) l9) : List (List Int))⟩]
                                                                              else
                                                                                bif (List.getD (List.getD l9 (0 : Nat) []) (0 : Nat) (0 : Int) == (93 : Int)) then
                                                                                  RL SSg [tyA] n 13 0 nx m [⟨(.int .u8), ((1 : Int) : Int)⟩, ⟨(.int .u8), ((11 : Int) : Int)⟩, ⟨(.int .u8), ((0 : Int) : Int)⟩, ⟨(.int .u8), ((0 : Int) : Int)⟩, ⟨(.int .u8), (n4 : Int)⟩, ⟨(.int .u8), (n5 : Int)⟩, ⟨(.int .u8), (n6 : Int)⟩, ⟨(.int .u8), (n7 : Int)⟩, ⟨(.int .u16), (n8 : Int)⟩, ⟨tyL, (List.take (Int.toNat (↑(List.length l9) : Int) - (1 : Nat)) (List.drop (1 : Nat) l9) : List (List Int))⟩]
                                                                                else
                                                                                  bif (List.getD (List.getD l9 (0 : Nat) []) (0 : Nat) (0 : Int) == (43 : Int)) then
                                                                                    RL SSg [tyA] n 13 0 nx m [⟨(.int .u8), (n0 : Int)⟩, ⟨(.int .u8), (n1 : Int)⟩, ⟨(.int .u8), (n2 : Int)⟩, ⟨(.int .u8), (n3 : Int)⟩, ⟨(.int .u8), ((1 : Int) : Int)⟩, ⟨(.int .u8), ((3 : Int) : Int)⟩, ⟨(.int .u8), ((0 : Int) : Int)⟩, ⟨(.int .u8), ((0 : Int) : Int)⟩, ⟨(.int .u16), (n8 : Int)⟩, ⟨tyL, (List.take (Int.toNat (↑(List.length l9) : Int) - (1 : Nat)) (List.drop (1 : Nat) l9) : List (List Int))⟩]
                                                                                  else
                                                                                    bif (List.getD (List.getD l9 (0 : Nat) []) (0 : Nat) (0 : Int) == (103 : Int)) then
                                                                                      RL SSg [tyA] n 13 0 nx m [⟨(.int .u8), (n0 : Int)⟩, ⟨(.int .u8), (n1 : Int)⟩, ⟨(.int .u8), (n2 : Int)⟩, ⟨(.int .u8), (n3 : Int)⟩, ⟨(.int .u8), ((1 : Int) : Int)⟩, ⟨(.int .u8), ((11 : Int) : Int)⟩, ⟨(.int .u8), ((0 : Int) : Int)⟩, ⟨(.int .u8), ((0 : Int) : Int)⟩, ⟨(.int .u16), (n8 : Int)⟩, ⟨tyL, (List.take (Int.toNat (↑(List.length l9) : Int) - (1 : Nat)) (List.drop (1 : Nat) l9) : List (List Int))⟩]
                                                                                    else
                                                                                      bif (List.getD (List.getD l9 (0 : Nat) []) (0 : Nat) (0 : Int) == (34 : Int)) then
                                                                                        RL SSg [tyA] n 13 0 nx m [⟨(.int .u8), ((1 : Int) : Int)⟩, ⟨(.int .u8), ((4 : Int) : Int)⟩, ⟨(.int .u8), ((0 : Int) : Int)⟩, ⟨(.int .u8), ((0 : Int) : Int)⟩, ⟨(.int .u8), (n4 : Int)⟩, ⟨(.int .u8), (n5 : Int)⟩, ⟨(.int .u8), (n6 : Int)⟩, ⟨(.int .u8), (n7 : Int)⟩, ⟨(.int .u16), (n8 : Int)⟩, ⟨tyL, (List.take (Int.toNat (↑(List.length l9) : Int) - (1 : Nat)) (List.drop (1 : Nat) l9) : List (List Int))⟩]
                                                                                      else
                                                                                        bif (List.getD (List.getD l9 (0 : Nat) []) (0 : Nat) (0 : Int) == (94 : Int)) then
                                                                                          RL SSg [tyA] n 13 0 nx m [⟨(.int .u8), ((1 : Int) : Int)⟩, ⟨(.int .u8), ((12 : Int) : Int)⟩, ⟨(.int .u8), ((0 : Int) : Int)⟩, ⟨(.int .u8), ((0 : Int) : Int)⟩, ⟨(.int .u8), (n4 : Int)⟩, ⟨(.int .u8), (n5 : Int)⟩, ⟨(.int .u8), (n6 : Int)⟩, ⟨(.int .u8), (n7 : Int)⟩, ⟨(.int .u16), (n8 : Int)⟩, ⟨tyL, (List.take (Int.toNat (↑(List.length l9) : Int) - (1 : Nat)) (List.drop (1 : Nat) l9) : List (List Int))⟩]
                                                                                        else
                                                                                          bif (List.getD (List.getD l9 (0 : Nat) []) (0 : Nat) (0 : Int) == (44 : Int)) then
                                                                                            RL SSg [tyA] n 13 0 nx m [⟨(.int .u8), (n0 : Int)⟩, ⟨(.int .u8), (n1 : Int)⟩, ⟨(.int .u8), (n2 : Int)⟩, ⟨(.int .u8), (n3 : Int)⟩, ⟨(.int .u8), ((1 : Int) : Int)⟩, ⟨(.int .u8), ((4 : Int) : Int)⟩, ⟨(.int .u8), ((0 : Int) : Int)⟩, ⟨(.int .u8), ((0 : Int) : Int)⟩, ⟨(.int .u16), (n8 : Int)⟩, ⟨tyL, (List.take (Int.toNat (↑(List.length l9) : Int) - (1 : Nat)) (List.drop (1 : Nat) l9) : List (List Int))⟩]
                                                                                          else
                                                                                            bif (List.getD (List.getD l9 (0 : Nat) []) (0 : Nat) (0 : Int) == (104 : Int)) then
                                                                                              RL SSg [tyA] n 13 0 nx m [⟨(.int .u8), (n0 : Int)⟩, ⟨(.int .u8), (n1 : Int)⟩, ⟨(.int .u8), (n2 : Int)⟩, ⟨(.int .u8), (n3 : Int)⟩, ⟨(.int .u8), ((1 : Int) : Int)⟩, ⟨(.int .u8), ((12 : Int) : Int)⟩, ⟨(.int .u8), ((0 : Int) : Int)⟩, ⟨(.int .u8), ((0 : Int) : Int)⟩, ⟨(.int .u16), (n8 : Int)⟩, ⟨tyL, (List.take (Int.toNat (↑(List.length l9) : Int) - (1 : Nat)) (List.drop (1 : Nat) l9) : List (List Int))⟩]
                                                                                            else
                                                                                              bif (List.getD (List.getD l9 (0 : Nat) []) (0 : Nat) (0 : Int) == (35 : Int)) then
                                                                                                RL SSg [tyA] n 13 0 nx m [⟨(.int .u8), ((1 : Int) : Int)⟩, ⟨(.int .u8), ((5 : Int) : Int)⟩, ⟨(.int .u8), ((0 : Int) : Int)⟩, ⟨(.int .u8), ((0 : Int) : Int)⟩, ⟨(.int .u8), (n4 : Int)⟩, ⟨(.int .u8), (n5 : Int)⟩, ⟨(.int .u8), (n6 : Int)⟩, ⟨(.int .u8), (n7 : Int)⟩, ⟨(.int .u16), (n8 : Int)⟩, ⟨tyL, (List.take (Int.toNat (↑(List.length l9) : Int) - (1 : Nat)) (List.drop (1 : Nat) l9) : List (List Int))⟩]
                                                                                              else
                                                                                                bif (List.getD (List.getD l9 (0 : Nat) []) (0 : Nat) (0 : Int) == (95 : Int)) then
                                                                                                  RL SSg [tyA] n 13 0 nx m [⟨(.int .u8), ((1 : Int) : Int)⟩, ⟨(.int .u8), ((13 : Int) : Int)⟩, ⟨(.int .u8), ((0 : Int) : Int)⟩, ⟨(.int .u8), ((0 : Int) : Int)⟩, ⟨(.int .u8), (n4 : Int)⟩, ⟨(.int .u8), (n5 : Int)⟩, ⟨(.int .u8), (n6 : Int)⟩, ⟨(.int .u8), (n7 : Int)⟩, ⟨(.int .u16), (n8 : Int)⟩, ⟨tyL, (List.take (Int.toNat (↑(List.length l9) : Int) - (1 : Nat)) (List.drop (1 : Nat) l9) : List (List Int))⟩]
                                                                                                else
                                                                                                  bif (List.getD (List.getD l9 (0 : Nat) []) (0 : Nat) (0 : Int) == (45 : Int)) then
                                                                                                    RL SSg [tyA] n 13 0 nx m [⟨(.int .u8), (n0 : Int)⟩, ⟨(.int .u8), (n1 : Int)⟩, ⟨(.int .u8), (n2 : Int)⟩, ⟨(.int .u8), (n3 : Int)⟩, ⟨(.int .u8), ((1 : Int) : Int)⟩, ⟨(.int .u8), ((5 : Int) : Int)⟩, ⟨(.int .u8), ((0 : Int) : Int)⟩, ⟨(.int .u8), ((0 : Int) : Int)⟩, ⟨(.int .u16), (n8 : Int)⟩, ⟨tyL, (List.take (Int.toNat (↑(List.length l9) : Int) - (1 : Nat)) (List.drop (1 : Nat) l9) : List (List Int))⟩]
                                                                                                  else
                                                                                                    bif (List.getD (List.getD l9 (0 : Nat) []) (0 : Nat) (0 : Int) == (105 : Int)) then
                                                                                                      RL SSg [tyA] n 13 0 nx m [⟨(.int .u8), (n0 : Int)⟩, ⟨(.int .u8), (n1 : Int)⟩, ⟨(.int .u8), (n2 : Int)⟩, ⟨(.int .u8), (n3 : Int)⟩, ⟨(.int .u8), ((1 : Int) : Int)⟩, ⟨(.int .u8), ((13 : Int) : Int)⟩, ⟨(.int .u8), ((0 : Int) : Int)⟩, ⟨(.int .u8), ((0 : Int) : Int)⟩, ⟨(.int .u16), (n8 : Int)⟩, ⟨tyL, (List.take (Int.toNat (↑(List.length l9) : Int) - (1 : Nat)) (List.drop (1 : Nat) l9) : List (List Int))⟩]
                                                                                                    else
                                                                                                      bif (List.getD (List.getD l9 (0 : Nat) []) (0 : Nat) (0 : Int) == (36 : Int)) then
                                                                                                        RL SSg [tyA] n 13 0 nx m [⟨(.int .u8), ((1 : Int) : Int)⟩, ⟨(.int .u8), ((6 : Int) : Int)⟩, ⟨(.int .u8), ((0 : Int) : Int)⟩, ⟨(.int .u8), ((0 : Int) : Int)⟩, ⟨(.int .u8), (n4 : Int)⟩, ⟨(.int .u8), (n5 : Int)⟩, ⟨(.int .u8), (n6 : Int)⟩, ⟨(.int .u8), (n7 : Int)⟩, ⟨(.int .u16), (n8 : Int)⟩, ⟨tyL, (List.take (Int.toNat (↑(List.length l9) : Int) - (1 : Nat)) (List.drop (1 : Nat) l9) : List (List Int))⟩]
                                                                                                      else
                                                                                                        bif (List.getD (List.getD l9 (0 : Nat) []) (0 : Nat) (0 : Int) == (96 : Int)) then
                                                                                                          RL SSg [tyA] n 13 0 nx m [⟨(.int .u8), ((1 : Int) : Int)⟩, ⟨(.int .u8), ((14 : Int) : Int)⟩, ⟨(.int .u8), ((0 : Int) : Int)⟩, ⟨(.int .u8), ((0 : Int) : Int)⟩, ⟨(.int .u8), (n4 : Int)⟩, ⟨(.int .u8), (n5 : Int)⟩, ⟨(.int .u8), (n6 : Int)⟩, ⟨(.int .u8), (n7 : Int)⟩, ⟨(.int .u16), (n8 : Int)⟩, ⟨tyL, (List.take (Int.toNat (↑(List.length l9) : Int) - (1 : Nat)) (List.drop (1 : Nat) l9) : List (List Int))⟩]
                                                                                                        else
                                                                                                          bif (List.getD (List.getD l9 (0 : Nat) []) (0 : Nat) (0 : Int) == (46 : Int)) then
                                                                                                            RL SSg [tyA] n 13 0 nx m [⟨(.int .u8), (n0 : Int)⟩, ⟨(.int .u8), (n1 : Int)⟩, ⟨(.int .u8), (n2 : Int)⟩, ⟨(.int .u8), (n3 : Int)⟩, ⟨(.int .u8), ((1 : Int) : Int)⟩, ⟨(.int .u8), ((6 : Int) : Int)⟩, ⟨(.int .u8), ((0 : Int) : Int)⟩, ⟨(.int .u8), ((0 : Int) : Int)⟩, ⟨(.int .u16), (n8 : Int)⟩, ⟨tyL, (List.take (Int.toNat (↑(List.length l9) : Int) - (1 : Nat)) (List.drop (1 : Nat) l9) : List (List Int))⟩]
                                                                                                          else
                                                                                                            bif (List.getD (List.getD l9 (0 : Nat) []) (0 : Nat) (0 : Int) == (106 : Int)) then
                                                                                                              RL SSg [tyA] n 13 0 nx m [⟨(.int .u8), (n0 : Int)⟩, ⟨(.int .u8), (n1 : Int)⟩, ⟨(.int .u8), (n2 : Int)⟩, ⟨(.int .u8), (n3 : Int)⟩, ⟨(.int .u8), ((1 : Int) : Int)⟩, ⟨(.int .u8), ((14 : Int) : Int)⟩, ⟨(.int .u8), ((0 : Int) : Int)⟩, ⟨(.int .u8), ((0 : Int) : Int)⟩, ⟨(.int .u16), (n8 : Int)⟩, ⟨tyL, (List.take (Int.toNat (↑(List.length l9) : Int) - (1 : Nat)) (List.drop (1 : Nat) l9) : List (List Int))⟩]
                                                                                                            else
                                                                                                              bif (List.getD (List.getD l9 (0 : Nat) []) (0 : Nat) (0 : Int) == (37 : Int)) then
                                                                                                                RL SSg [tyA] n 13 0 nx m [⟨(.int .u8), ((1 : Int) : Int)⟩, ⟨(.int .u8), ((7 : Int) : Int)⟩, ⟨(.int .u8), ((0 : Int) : Int)⟩, ⟨(.int .u8), ((0 : Int) : Int)⟩, ⟨(.int .u8), (n4 : Int)⟩, ⟨(.int .u8), (n5 : Int)⟩, ⟨(.int .u8), (n6 : Int)⟩, ⟨(.int .u8), (n7 : Int)⟩, ⟨(.int .u16), (n8 : Int)⟩, ⟨tyL, (List.take (Int.toNat (↑(List.length l9) : Int) - (1 : Nat)) (List.drop (1 : Nat) l9) : List (List Int))⟩]
                                                                                                              else
                                                                                                                bif (List.getD (List.getD l9 (0 : Nat) []) (0 : Nat) (0 : Int) == (97 : Int)) then
                                                                                                                  RL SSg [tyA] n 13 0 nx m [⟨(.int .u8), ((1 : Int) : Int)⟩, ⟨(.int .u8), ((15 : Int) : Int)⟩, ⟨(.int .u8), ((0 : Int) : Int)⟩, ⟨(.int .u8), ((0 : Int) : Int)⟩, ⟨(.int .u8), (n4 : Int)⟩, ⟨(.int .u8), (n5 : Int)⟩, ⟨(.int .u8), (n6 : Int)⟩, ⟨(.int .u8), (n7 : Int)⟩, ⟨(.int .u16), (n8 : Int)⟩, ⟨tyL, (List.take (Int.toNat (↑(List.length l9) : Int) - (1 : Nat)) (List.drop (1 : Nat) l9) : List (List Int))⟩]
                                                                                                                else
                                                                                                                  bif (List.getD (List.getD l9 (0 : Nat) []) (0 : Nat) (0 : Int) == (47 : Int)) then
                                                                                                                    RL SSg [tyA] n 13 0 nx m [⟨(.int .u8), (n0 : Int)⟩, ⟨(.int .u8), (n1 : Int)⟩, ⟨(.int .u8), (n2 : Int)⟩, ⟨(.int .u8), (n3 : Int)⟩, ⟨(.int .u8), ((1 : Int) : Int)⟩, ⟨(.int .u8), ((7 : Int) : Int)⟩, ⟨(.int .u8), ((0 : Int) : Int)⟩, ⟨(.int .u8), ((0 : Int) : Int)⟩, ⟨(.int .u16), (n8 : Int)⟩, ⟨tyL, (List.take (Int.toNat (↑(List.length l9) : Int) - (1 : Nat)) (List.drop (1 : Nat) l9) : List (List Int))⟩]
                                                                                                                  else
                                                                                                                    bif (List.getD (List.getD l9 (0 : Nat) []) (0 : Nat) (0 : Int) == (107 : Int)) then
                                                                                                                      RL SSg [tyA] n 13 0 nx m [⟨(.int .u8), (n0 : Int)⟩, ⟨(.int .u8), (n1 : Int)⟩, ⟨(.int .u8), (n2 : Int)⟩, ⟨(.int .u8), (n3 : Int)⟩, ⟨(.int .u8), ((1 : Int) : Int)⟩, ⟨(.int .u8), ((15 : Int) : Int)⟩, ⟨(.int .u8), ((0 : Int) : Int)⟩, ⟨(.int .u8), ((0 : Int) : Int)⟩, ⟨(.int .u16), (n8 : Int)⟩, ⟨tyL, (List.take (Int.toNat (↑(List.length l9) : Int) - (1 : Nat)) (List.drop (1 : Nat) l9) : List (List Int))⟩]
                                                                                                                    else
                                                                                                                      RL SSg [tyA] n 13 0 nx m [⟨(.int .u8), (n0 : Int)⟩, ⟨(.int .u8), (n1 : Int)⟩, ⟨(.int .u8), (n2 : Int)⟩, ⟨(.int .u8), (n3 : Int)⟩, ⟨(.int .u8), (n4 : Int)⟩, ⟨(.int .u8), (n5 : Int)⟩, ⟨(.int .u8), (n6 : Int)⟩, ⟨(.int .u8), (n7 : Int)⟩, ⟨(.int .u16), (n8 : Int)⟩, ⟨tyL, (List.take (Int.toNat (↑(List.length l9) : Int) - (1 : Nat)) (List.drop (1 : Nat) l9) : List (List Int))⟩]
    else
      some [⟨tyA, (((n0, n1, n2, n3, ()), (n4, n5, n6, n7, ()), n8, ()) : A0)⟩]) := by kernel_rfl
theorem Sg_fn (n : Nat) (p0 : A0) (l1 : List (List Int)) :
    fnY SSg loopY [(.hole tyA), (.hole tyL)] [tyA] n 13 [⟨tyA, p0⟩, ⟨tyL, l1⟩] =
    (bif ((↑(List.length l1) : Int) == (0 : Int)) then
      some [⟨tyA, ((((0 : Int), (0 : Int), (0 : Int), (0 : Int), ()), ((0 : Int), (0 : Int), (0 : Int), (0 : Int), ()), (0 : Int), ()) : A0)⟩]
    else
      RL SSg [tyA] n 13 0 noNx n [⟨(.int .u8), (Prod.fst (Prod.fst p0) : Int)⟩, ⟨(.int .u8), (Prod.fst (Prod.snd (Prod.fst p0)) : Int)⟩, ⟨(.int .u8), (Prod.fst (Prod.snd (Prod.snd (Prod.fst p0))) : Int)⟩, ⟨(.int .u8), (Prod.fst (Prod.snd (Prod.snd (Prod.snd (Prod.fst p0)))) : Int)⟩, ⟨(.int .u8), (Prod.fst (Prod.fst (Prod.snd p0)) : Int)⟩, ⟨(.int .u8), (Prod.fst (Prod.snd (Prod.fst (Prod.snd p0))) : Int)⟩, ⟨(.int .u8), (Prod.fst (Prod.snd (Prod.snd (Prod.fst (Prod.snd p0)))) : Int)⟩, ⟨(.int .u8), (Prod.fst (Prod.snd (Prod.snd (Prod.snd (Prod.fst (Prod.snd p0))))) : Int)⟩, ⟨(.int .u16), (Prod.fst (Prod.snd (Prod.snd p0)) : Int)⟩, ⟨tyL, (l1 : List (List Int))⟩]) := by kernel_rfl

end Go.Proofs.YthmmpfaghmoenaaDoor

namespace Go.Proofs.YthmmpfaghmoenaaDoor
open Go Go.Am

def sayF (a : A0) (x : Int) : A0 :=
  if x = 0 then ((0, 0, 0, 0, ()), (0, 0, 0, 0, ()), 0, ()) else
  if x = 22 then (a.1, a.2.1, orF (clrL [1, 2] a.2.2.1) 0, ()) else
  if x = 39 then ((0, 0, 0, 0, ()), a.2.1, a.2.2.1, ()) else
  if x = 49 then (a.1, (0, 0, 0, 0, ()), a.2.2.1, ()) else
  if x = 1 then (a.1, a.2.1, orF (clrL [] a.2.2.1) 1, ()) else
  if x = 2 then (a.1, a.2.1, orF (clrL [] a.2.2.1) 2, ()) else
  if x = 3 then (a.1, a.2.1, orF (clrL [] a.2.2.1) 4, ()) else
  if x = 23 then (a.1, a.2.1, orF (clrL [4] a.2.2.1) 0, ()) else
  if x = 4 then (a.1, a.2.1, orF (clrL [264] a.2.2.1) 8, ()) else
  if x = 24 then (a.1, a.2.1, orF (clrL [264] a.2.2.1) 0, ()) else
  if x = 5 then (a.1, a.2.1, orF (clrL [] a.2.2.1) 16, ()) else
  if x = 25 then (a.1, a.2.1, orF (clrL [16] a.2.2.1) 0, ()) else
  if x = 7 then (a.1, a.2.1, orF (clrL [] a.2.2.1) 32, ()) else
  if x = 27 then (a.1, a.2.1, orF (clrL [32] a.2.2.1) 0, ()) else
  if x = 8 then (a.1, a.2.1, orF (clrL [] a.2.2.1) 64, ()) else
  if x = 28 then (a.1, a.2.1, orF (clrL [64] a.2.2.1) 0, ()) else
  if x = 9 then (a.1, a.2.1, orF (clrL [] a.2.2.1) 128, ()) else
  if x = 29 then (a.1, a.2.1, orF (clrL [128] a.2.2.1) 0, ()) else
  if x = 21 then (a.1, a.2.1, orF (clrL [264] a.2.2.1) 256, ()) else
  if x = 30 then ((1, 0, 0, 0, ()), a.2.1, a.2.2.1, ()) else
  if x = 90 then ((1, 8, 0, 0, ()), a.2.1, a.2.2.1, ()) else
  if x = 40 then (a.1, (1, 0, 0, 0, ()), a.2.2.1, ()) else
  if x = 100 then (a.1, (1, 8, 0, 0, ()), a.2.2.1, ()) else
  if x = 31 then ((1, 1, 0, 0, ()), a.2.1, a.2.2.1, ()) else
  if x = 91 then ((1, 9, 0, 0, ()), a.2.1, a.2.2.1, ()) else
  if x = 41 then (a.1, (1, 1, 0, 0, ()), a.2.2.1, ()) else
  if x = 101 then (a.1, (1, 9, 0, 0, ()), a.2.2.1, ()) else
  if x = 32 then ((1, 2, 0, 0, ()), a.2.1, a.2.2.1, ()) else
  if x = 92 then ((1, 10, 0, 0, ()), a.2.1, a.2.2.1, ()) else
  if x = 42 then (a.1, (1, 2, 0, 0, ()), a.2.2.1, ()) else
  if x = 102 then (a.1, (1, 10, 0, 0, ()), a.2.2.1, ()) else
  if x = 33 then ((1, 3, 0, 0, ()), a.2.1, a.2.2.1, ()) else
  if x = 93 then ((1, 11, 0, 0, ()), a.2.1, a.2.2.1, ()) else
  if x = 43 then (a.1, (1, 3, 0, 0, ()), a.2.2.1, ()) else
  if x = 103 then (a.1, (1, 11, 0, 0, ()), a.2.2.1, ()) else
  if x = 34 then ((1, 4, 0, 0, ()), a.2.1, a.2.2.1, ()) else
  if x = 94 then ((1, 12, 0, 0, ()), a.2.1, a.2.2.1, ()) else
  if x = 44 then (a.1, (1, 4, 0, 0, ()), a.2.2.1, ()) else
  if x = 104 then (a.1, (1, 12, 0, 0, ()), a.2.2.1, ()) else
  if x = 35 then ((1, 5, 0, 0, ()), a.2.1, a.2.2.1, ()) else
  if x = 95 then ((1, 13, 0, 0, ()), a.2.1, a.2.2.1, ()) else
  if x = 45 then (a.1, (1, 5, 0, 0, ()), a.2.2.1, ()) else
  if x = 105 then (a.1, (1, 13, 0, 0, ()), a.2.2.1, ()) else
  if x = 36 then ((1, 6, 0, 0, ()), a.2.1, a.2.2.1, ()) else
  if x = 96 then ((1, 14, 0, 0, ()), a.2.1, a.2.2.1, ()) else
  if x = 46 then (a.1, (1, 6, 0, 0, ()), a.2.2.1, ()) else
  if x = 106 then (a.1, (1, 14, 0, 0, ()), a.2.2.1, ()) else
  if x = 37 then ((1, 7, 0, 0, ()), a.2.1, a.2.2.1, ()) else
  if x = 97 then ((1, 15, 0, 0, ()), a.2.1, a.2.2.1, ()) else
  if x = 47 then (a.1, (1, 7, 0, 0, ()), a.2.2.1, ()) else
  if x = 107 then (a.1, (1, 15, 0, 0, ()), a.2.2.1, ()) else
  a

def zeroA : A0 := ((0, 0, 0, 0, ()), (0, 0, 0, 0, ()), 0, ())
def nextF (a : A0) (x : List Int) (rest : List (List Int)) : A0 × List (List Int) :=
  if x.length = 0 then (a, rest) else if 1 < x.length then (sevF a x, rest) else if x.getD 0 0 = 38 ∨ x.getD 0 0 = 48 then behF a (x.getD 0 0) rest else (if x.getD 0 0 = -1 then zeroA else sayF a (x.getD 0 0), rest)
def sgrN : Nat → A0 → List (List Int) → A0
  | m + 1, a, x :: rest => sgrN m (nextF a x rest).1 (nextF a x rest).2
  | _, a, _ => a
def sgrF (a : A0) (l : List (List Int)) : A0 := if l.length = 0 then zeroA else sgrN l.length a l
def rowsB (l : List (List Int)) : Bool := l.all fun r => decide (r.length ≤ 1000000) && r.all i64B
theorem rowsB_all {l : List (List Int)} (h : rowsB l = true) : allB l = true := List.all_eq_true.2 fun x hx => by
  have := List.all_eq_true.1 h x hx
  simp only [Bool.and_eq_true] at this
  exact this.2
theorem rowsB_drop {l : List (List Int)} (h : rowsB l = true) (k : Nat) : rowsB (l.drop k) = true := List.all_eq_true.2 fun x hx => List.all_eq_true.1 h x (List.mem_of_mem_drop hx)

noncomputable def stp (n : Nat) (nx : Nat → List Dy → Option (List Dy)) (m : Nat) (l : List (List Int)) (a : A0) : Option (List Dy) :=
  RL SSg [tyA] n 13 0 nx m [⟨.int .u8, a.1.1⟩, ⟨.int .u8, a.1.2.1⟩, ⟨.int .u8, a.1.2.2.1⟩, ⟨.int .u8, a.1.2.2.2.1⟩, ⟨.int .u8, a.2.1.1⟩, ⟨.int .u8, a.2.1.2.1⟩, ⟨.int .u8, a.2.1.2.2.1⟩, ⟨.int .u8, a.2.1.2.2.2.1⟩, ⟨.int .u16, a.2.2.1⟩, ⟨.list 36 (.list 3 (.int .i64)), l⟩]

theorem sel {n : Nat} {nx : Nat → List Dy → Option (List Dy)} {m : Nat} {l : List (List Int)} {x k : Int} {p q : Option (List Dy)} {a b : A0} (h1 : x = k → p = stp n nx m l a) (h2 : x ≠ k → q = stp n nx m l b) : (bif x == k then p else q) = stp n nx m l (if x = k then a else b) := by
  by_cases e : x = k
  · rw [if_pos e, e, beq_self_eq_true]; exact h1 e
  · rw [if_neg e, show (x == k) = false by simpa using e]; exact h2 e

theorem sg_step (n : Nat) (nx : Nat → List Dy → Option (List Dy)) (m : Nat) (a : A0) (x : List Int) (rest : List (List Int)) (hx : x.length ≤ 1000000) (hb : x.all i64B = true) (hr : rest.length ≤ 1000000) (hbr : allB rest = true) :
    stp n nx (m + 1) (x :: rest) a = stp n nx m (nextF a x rest).2 (nextF a x rest).1 := by
  unfold stp
  rw [Sg_L0]
  simp only [takeL]
  simp only [List.getD_cons_zero, List.drop_succ_cons, List.drop_zero]
  have hlen : (x :: rest).length = rest.length + 1 := rfl
  refine bpd (by omega) (nd (by omega) (nd (by omega) (nd (by omega) (nd (by omega) ?_))))
  unfold nextF
  by_cases c0 : x.length = 0
  · rw [if_pos c0]; exact bp (by rw [c0]; rfl) rfl
  rw [if_neg c0]
  refine bn (by simpa using c0) ?_
  by_cases c1 : 1 < x.length
  · rw [if_pos c1]
    exact bpd (by omega) (nd (by omega) (nd (by omega) (np hb rfl)))
  rw [if_neg c1]
  refine bnd (by omega) (nd (by omega) (nd (by omega) ?_))
  by_cases c2 : x.getD 0 0 = 38
  · rw [if_pos (.inl c2)]
    exact bp (by rw [c2]; rfl) (bp (by rw [c2]; rfl) (nd (by omega) (nd (by omega) (nd (by omega) (np hbr rfl)))))
  refine bn (by simpa [-List.getD_eq_getElem?_getD] using c2) (nd (by omega) (nd (by omega) ?_))
  by_cases c3 : x.getD 0 0 = 48
  · rw [if_pos (.inr c3)]
    exact bp (by rw [c3]; rfl) (nd (by omega) (nd (by omega) (nd (by omega) (np hbr rfl))))
  rw [if_neg (by omega)]
  refine bn (by simpa [-List.getD_eq_getElem?_getD] using c3) (nd (by omega) (nd (by omega) ?_))
  show _ = stp n nx m rest (if x.getD 0 0 = -1 then zeroA else sayF a (x.getD 0 0))
  unfold sayF
  exact sel (fun _ => rfl) (fun _ => sel (fun _ => rfl) (fun _ => sel (fun _ => rfl) (fun _ => sel (fun _ => rfl) (fun _ => sel (fun _ => rfl) (fun _ => sel (fun _ => rfl) (fun _ => sel (fun _ => rfl) (fun _ => sel (fun _ => rfl) (fun _ => sel (fun _ => rfl) (fun _ => sel (fun _ => rfl) (fun _ => sel (fun _ => rfl) (fun _ => sel (fun _ => rfl) (fun _ => sel (fun _ => rfl) (fun _ => sel (fun _ => rfl) (fun _ => sel (fun _ => rfl) (fun _ => sel (fun _ => rfl) (fun _ => sel (fun _ => rfl) (fun _ => sel (fun _ => rfl) (fun _ => sel (fun _ => rfl) (fun _ => sel (fun _ => rfl) (fun _ => sel (fun _ => rfl) (fun _ => sel (fun _ => rfl) (fun _ => sel (fun _ => rfl) (fun _ => sel (fun _ => rfl) (fun _ => sel (fun _ => rfl) (fun _ => sel (fun _ => rfl) (fun _ => sel (fun _ => rfl) (fun _ => sel (fun _ => rfl) (fun _ => sel (fun _ => rfl) (fun _ => sel (fun _ => rfl) (fun _ => sel (fun _ => rfl) (fun _ => sel (fun _ => rfl) (fun _ => sel (fun _ => rfl) (fun _ => sel (fun _ => rfl) (fun _ => sel (fun _ => rfl) (fun _ => sel (fun _ => rfl) (fun _ => sel (fun _ => rfl) (fun _ => sel (fun _ => rfl) (fun _ => sel (fun _ => rfl) (fun _ => sel (fun _ => rfl) (fun _ => sel (fun _ => rfl) (fun _ => sel (fun _ => rfl) (fun _ => sel (fun _ => rfl) (fun _ => sel (fun _ => rfl) (fun _ => sel (fun _ => rfl) (fun _ => sel (fun _ => rfl) (fun _ => sel (fun _ => rfl) (fun _ => sel (fun _ => rfl) (fun _ => sel (fun _ => rfl) (fun _ => sel (fun _ => rfl) (fun _ => sel (fun _ => rfl) (fun _ => sel (fun _ => rfl) (fun _ => rfl))))))))))))))))))))))))))))))))))))))))))))))))))))

theorem nextF_len (a : A0) (x : List Int) (rest : List (List Int)) : (nextF a x rest).2.length ≤ rest.length ∧ ∃ k, (nextF a x rest).2 = rest.drop k := by
  have key : ∃ k, (nextF a x rest).2 = rest.drop k := by
    unfold nextF
    split
    · exact ⟨0, rfl⟩
    · split
      · exact ⟨0, rfl⟩
      · split
        · cases rest with
          | nil => exact ⟨0, rfl⟩
          | cons kind r =>
            rw [behF_cons]
            split
            · exact ⟨_ + 1, rfl⟩
            · exact ⟨1, rfl⟩
        · exact ⟨0, rfl⟩
  obtain ⟨k, hk⟩ := key
  refine ⟨?_, k, hk⟩
  rw [hk, List.length_drop]
  omega

theorem sg_loop (n : Nat) : ∀ (m : Nat) (l : List (List Int)) (a : A0), l.length ≤ m → l.length ≤ 1000000 → rowsB l = true → stp n noNx (m + 1) l a = some [⟨tyA, sgrN m a l⟩]
  | m, [], a, _, _, _ => by
    have e : sgrN m a [] = a := by cases m <;> rfl
    rw [e]
    unfold stp
    rw [Sg_L0]
    exact bnd (by simp) rfl
  | 0, x :: rest, _, h, _, _ => by simp at h
  | m + 1, x :: rest, a, h, hl, hb => by
    have hlen : (x :: rest).length = rest.length + 1 := rfl
    have hx := List.all_eq_true.1 hb x (by simp)
    simp only [Bool.and_eq_true, decide_eq_true_eq] at hx
    have hbr : rowsB rest = true := rowsB_drop hb 1
    rw [sg_step n noNx (m + 1) a x rest hx.1 hx.2 (by omega) (rowsB_all hbr)]
    obtain ⟨h1, k, h2⟩ := nextF_len a x rest
    exact sg_loop n m _ _ (by omega) (by omega) (by rw [h2]; exact rowsB_drop hbr k)

theorem sg_ok (a : A0) (l : List (List Int)) (hl : l.length ≤ 1000000) (hb : rowsB l = true) : ∃ n, fnY SSg loopY [.hole tyA, .hole (.list 36 (.list 3 (.int .i64)))] [tyA] n 13 [⟨tyA, a⟩, ⟨.list 36 (.list 3 (.int .i64)), l⟩] = some [⟨tyA, sgrF a l⟩] := by
  refine ⟨l.length + 1, ?_⟩
  rw [Sg_fn]
  unfold sgrF
  by_cases e : l.length = 0
  · rw [if_pos e]; exact bp (by rw [e]; rfl) rfl
  · rw [if_neg e]
    refine bn (by simpa using e) ?_
    exact sg_loop _ l.length l a (Nat.le_refl _) hl hb
def cSg : Ctr := ctr2 tyA (.list 36 (.list 3 (.int .i64))) [tyA] (fun _ (l : List (List Int)) => [decide (l.length ≤ 1000000), rowsB l]) fun (a : A0) (l : List (List Int)) => [⟨tyA, sgrF a l⟩]
theorem cSg_ok : CtrOk EP 13 cSg := ctr2_ok (S := SSg) (t := tyA) (u := .list 36 (.list 3 (.int .i64))) (S_ok c5_ok m2_ok) (fun _ => rfl) rfl fun (a : A0) (l : List (List Int)) h => by
  simp only [List.all_cons, id, decide_eq_true_eq, List.all_nil, Bool.and_true, Bool.and_eq_true] at h
  exact sg_ok a l h.1 h.2
theorem works_ctr : CtrOk EP 10 (ctr0 [.bool] [⟨.bool, true⟩]) := ctr0_orcB rfl
def c6 : FuncId → List Ctr := addCtr (addCtr c5 13 cSg) 10 (ctr0 [.bool] [⟨.bool, true⟩])
theorem c6_ok : ∀ g ct, ct ∈ c6 g → CtrOk EP g ct := addCtr_ok (addCtr_ok c5_ok cSg_ok) works_ctr
end Go.Proofs.YthmmpfaghmoenaaDoor

namespace Go.Proofs.YthmmpfaghmoenaaDoor
open Go Go.Am
set_option linter.unusedVariables false
def tmCz : FuncId → Nat → Option Tm := fun g i => match Nat.beq g 28 with
  | true => none
  | false => none
noncomputable def SCz : SE := { E := EP, ctr := c6, tm := tmCz, un := 300, ctrM := m2 }
theorem Cz_fn (n : Nat) (n0 : Int) (p1 : Int × Int × Int × PUnit) :
    fnY SCz loopY [(.hole (.int .u8)), (.hole (.pair (.int .u8) (.pair (.int .u8) (.pair (.int .u8) .unit))))] [tyC] n 28 [⟨(.int .u8), n0⟩, ⟨(.pair (.int .u8) (.pair (.int .u8) (.pair (.int .u8) .unit))), p1⟩] =
    (bif (Int.tmod n0 (4 : Int) == (1 : Int)) then
      some [⟨tyC, (((1 : Int), Prod.fst p1, (0 : Int), (0 : Int), ()) : Int × Int × Int × Int × PUnit)⟩]
    else
      bif (Int.tmod n0 (4 : Int) == (2 : Int)) then
        some [⟨tyC, (((2 : Int), Prod.fst p1, Prod.fst (Prod.snd p1), Prod.fst (Prod.snd (Prod.snd p1)), ()) : Int × Int × Int × Int × PUnit)⟩]
      else
        bif (Int.tmod n0 (4 : Int) == (3 : Int)) then
          some [⟨tyC, (((1 : Int), Int.tmod (Prod.fst p1) (16 : Int), (0 : Int), (0 : Int), ()) : Int × Int × Int × Int × PUnit)⟩]
        else
          some [⟨tyC, (((0 : Int), (0 : Int), (0 : Int), (0 : Int), ()) : Int × Int × Int × Int × PUnit)⟩]) := by kernel_rfl

def tmIx : FuncId → Nat → Option Tm := fun g i => match Nat.beq g 14 with
  | true => none
  | false => none
noncomputable def SIx : SE := { E := EP, ctr := c6, tm := tmIx, un := 300, ctrM := m2 }
theorem Ix_fn (n : Nat) (n0 : Int) :
    fnY SIx loopY [(.hole (.int .u8))] [tyC] n 14 [⟨(.int .u8), n0⟩] =
    (some [⟨tyC, (((1 : Int), n0, (0 : Int), (0 : Int), ()) : Int × Int × Int × Int × PUnit)⟩]) := by kernel_rfl

def tmRg : FuncId → Nat → Option Tm := fun g i => match Nat.beq g 15 with
  | true => none
  | false => none
noncomputable def SRg : SE := { E := EP, ctr := c6, tm := tmRg, un := 300, ctrM := m2 }
theorem Rg_fn (n : Nat) (n0 : Int) (n1 : Int) (n2 : Int) :
    fnY SRg loopY [(.hole (.int .u8)), (.hole (.int .u8)), (.hole (.int .u8))] [tyC] n 15 [⟨(.int .u8), n0⟩, ⟨(.int .u8), n1⟩, ⟨(.int .u8), n2⟩] =
    (some [⟨tyC, (((2 : Int), n0, n1, n2, ()) : Int × Int × Int × Int × PUnit)⟩]) := by kernel_rfl

end Go.Proofs.YthmmpfaghmoenaaDoor

namespace Go.Proofs.YthmmpfaghmoenaaDoor
open Go Go.Am
abbrev tyB : Ty := .pair (.int .u8) (.pair (.int .u8) (.pair (.int .u8) .unit))
abbrev B0 : Type := Int × Int × Int × Unit
abbrev tyD : Ty := .pair (.int .u16) (.pair (.int .u8) (.pair tyB (.pair tyB .unit)))
abbrev D0 : Type := Int × Int × B0 × B0 × Unit
def czF (k : Int) (b : B0) : C0 :=
  if Int.tmod k 4 = 1 then (1, b.1, 0, 0, ()) else if Int.tmod k 4 = 2 then (2, b.1, b.2.1, b.2.2.1, ()) else if Int.tmod k 4 = 3 then (1, Int.tmod b.1 16, 0, 0, ()) else (0, 0, 0, 0, ())
theorem cz_ok (k : Int) (b : B0) : ∃ n, fnY SCz loopY [.hole (.int .u8), .hole tyB] [tyC] n 28 [⟨.int .u8, k⟩, ⟨tyB, b⟩] = some [⟨tyC, czF k b⟩] := by
  refine ⟨0, ?_⟩
  rw [Cz_fn]
  unfold czF
  by_cases e : Int.tmod k 4 = 1
  · rw [if_pos e]; exact bp (by rw [e]; rfl) rfl
  rw [if_neg e]
  refine bn (by simpa using e) ?_
  by_cases e : Int.tmod k 4 = 2
  · rw [if_pos e]; exact bp (by rw [e]; rfl) rfl
  rw [if_neg e]
  refine bn (by simpa using e) ?_
  by_cases e : Int.tmod k 4 = 3
  · rw [if_pos e]; exact bp (by rw [e]; rfl) rfl
  rw [if_neg e]
  exact bn (by simpa using e) rfl
def cCz : Ctr := ctr2 (.int .u8) tyB [tyC] (fun _ _ => []) fun (k : Int) (b : B0) => [⟨tyC, czF k b⟩]
theorem cCz_ok : CtrOk EP 28 cCz := ctr2_ok (S := SCz) (t := .int .u8) (u := tyB) (S_ok c6_ok m2_ok) (fun _ => rfl) rfl fun (k : Int) (b : B0) _ => cz_ok k b
def cIx : Ctr := ctr1 (.int .u8) [tyC] (fun _ => []) fun (n : Int) => [⟨tyC, ((1, n, 0, 0, ()) : C0)⟩]
theorem cIx_ok : CtrOk EP 14 cIx := ctr1_ok (S := SIx) (t := .int .u8) (S_ok c6_ok m2_ok) (fun _ => rfl) rfl fun (n : Int) _ => ⟨0, Ix_fn 0 n⟩
def cRg : Ctr := ctr3 (.int .u8) (.int .u8) (.int .u8) [tyC] (fun _ _ _ => []) fun (r g b : Int) => [⟨tyC, ((2, r, g, b, ()) : C0)⟩]
theorem cRg_ok : CtrOk EP 15 cRg := ctr3_ok (S := SRg) (t := .int .u8) (u := .int .u8) (w := .int .u8) (S_ok c6_ok m2_ok) (fun _ => rfl) rfl fun (r g b : Int) _ => ⟨0, Rg_fn 0 r g b⟩
def c7 : FuncId → List Ctr := addCtr (addCtr (addCtr c6 28 cCz) 14 cIx) 15 cRg
theorem c7_ok : ∀ g ct, ct ∈ c7 g → CtrOk EP g ct := addCtr_ok (addCtr_ok (addCtr_ok c6_ok cCz_ok) cIx_ok) cRg_ok
end Go.Proofs.YthmmpfaghmoenaaDoor
