import Derived.Test.YthmmpfaghmoenaaDoorProg
import Derived.Test.YthmmpfaghmoenaaDoorAmGlob
import Derived.KernelRfl
namespace Go.Proofs.YthmmpfaghmoenaaDoor
open Go Go.Am
def std : Std := { ne := some 74, mz := some (75, 5) }
set_option maxRecDepth 100000 in
theorem std_ok : std.Ok Tryd.prog where
  mixed := by kernel_rfl
  names := by kernel_rfl
  ix f h := by cases h
  ct f h := by cases h
  ne f h := by
    have : 74 = f := by simpa [std] using h
    subst this
    exact ⟨⟨_, rfl, by kernel_rfl, by kernel_rfl, by kernel_rfl, rfl⟩⟩
  mz f e h := by
    have : 75 = f ∧ 5 = e := by simpa [std] using h
    obtain ⟨rfl, rfl⟩ := this
    exact ⟨_, _, ⟨⟨_, rfl, by kernel_rfl, by kernel_rfl, by kernel_rfl, rfl⟩⟩, by kernel_rfl, by kernel_rfl⟩
/-- The powers of ten. -/
def pow10s : List Int := [1, 10, 100, 1000, 10000, 100000, 1000000, 10000000, 100000000, 1000000000, 10000000000, 100000000000, 1000000000000, 10000000000000, 100000000000000, 1000000000000000, 10000000000000000, 100000000000000000, 1000000000000000000, 10000000000000000000]
def glob (g : Nat) : Option (List V) := match g with | 1 => some (tabCells .u64 pow10s) | _ => none
noncomputable def E : Env := { stdEnv Tryd.prog std with G := glob }
theorem E_ok : E.Ok := (stdEnv_ok std_ok).withG glob
end Go.Proofs.YthmmpfaghmoenaaDoor
