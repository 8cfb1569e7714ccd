import Derived.Test.YtdgadbhgcpfajaaDoorProg
import Derived.Test.YtdgadbhgcpfajaaDoorAmExt
import Derived.KernelRfl
namespace Go.Proofs.YtdgadbhgcpfajaaDoor
open Go Go.Am
def std : Std := { ix := some 101, ct := some 93, ne := some 77, mz := some (78, 5) }
set_option maxRecDepth 100000 in
theorem std_ok : std.Ok Tryd.prog where
  mixed := by kernel_rfl
  names := by kernel_rfl
  ix f h := by
    have : 101 = f := by simpa [std] using h
    subst this
    exact ⟨⟨_, rfl, by kernel_rfl, by kernel_rfl, by kernel_rfl, rfl⟩⟩
  ct f h := by
    have : 93 = f := by simpa [std] using h
    subst this
    exact ⟨⟨_, rfl, by kernel_rfl, by kernel_rfl, by kernel_rfl, rfl⟩⟩
  ne f h := by
    have : 77 = f := by simpa [std] using h
    subst this
    exact ⟨⟨_, rfl, by kernel_rfl, by kernel_rfl, by kernel_rfl, rfl⟩⟩
  mz f e h := by
    have : 78 = f ∧ 5 = e := by simpa [std] using h
    obtain ⟨rfl, rfl⟩ := this
    exact ⟨_, _, ⟨⟨_, rfl, by kernel_rfl, by kernel_rfl, by kernel_rfl, rfl⟩⟩, by kernel_rfl, by kernel_rfl⟩
noncomputable def E : Env := stdEnv Tryd.prog std
theorem E_ok : E.Ok := stdEnv_ok std_ok
end Go.Proofs.YtdgadbhgcpfajaaDoor
