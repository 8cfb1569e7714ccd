import Derived.Test.YtfjbcoahjinehaaDoorProg
import Derived.Test.YtfjbcoahjinehaaDoorAmRow
import Derived.KernelRfl
namespace Go.Proofs.YtfjbcoahjinehaaDoor
open Go Go.Am
noncomputable def E : Env := { P := Tryd.prog, G := fun _ => none, ext := fun _ _ => none, orc := fun _ _ => none }
theorem namesB : Tryd.prog.funcs.toList.all (fun fn => !(fn.name == "runtime.NumGoroutine")) = true := by kernel_rfl
theorem E_ok : E.Ok where
  mixed := by kernel_rfl
  names f fn h _ e := by
    have h1 : fn ∈ Tryd.prog.funcs.toList := by
      have := Array.mem_of_getElem? (show Tryd.prog.funcs[f]? = some fn from h)
      exact Array.mem_toList_iff.mpr this
    have h2 := List.all_eq_true.mp namesB fn h1
    simp [e] at h2
  ext f args v h := by simp [E] at h
  orc f args v h := by simp [E] at h
end Go.Proofs.YtfjbcoahjinehaaDoor
