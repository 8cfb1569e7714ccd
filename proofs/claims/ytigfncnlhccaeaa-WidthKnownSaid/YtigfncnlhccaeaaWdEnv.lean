import Derived.Test.YtigfncnlhccaeaaProg
import Derived.Test.YtigfncnlhccaeaaAmRow
import Derived.KernelRfl
namespace Go.Proofs.Ytigfncnlhccaeaa
open Go Go.Am
noncomputable def E : Env := { P := Try.prog, G := fun _ => none, ext := fun _ _ => none, orc := fun _ _ => none, same := fun f => f == 24 }
theorem namesB : Try.prog.funcs.toList.all (fun fn => !(fn.name == "runtime.NumGoroutine")) = true := by kernel_rfl
theorem E_ok : E.Ok where
  mixed := by kernel_rfl
  names f fn h _ e := by
    have h1 : fn ∈ Try.prog.funcs.toList := by
      have := Array.mem_of_getElem? (show Try.prog.funcs[f]? = some fn from h)
      exact Array.mem_toList_iff.mpr this
    have h2 := List.all_eq_true.mp namesB fn h1
    simp [e] at h2
  made f e h := by simp [E] at h
  same f h v w := by
    have : f = 24 := by simpa [E] using h
    subst this
    rfl
  ext f args v h := by simp [E] at h
  orc f args v h := by simp [E] at h
end Go.Proofs.Ytigfncnlhccaeaa
