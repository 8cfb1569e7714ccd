/-
  marqueelaw04.works: true.
-/
import Derived.Test.YtigfncnlhccaeaaWdOf2
namespace Go.Proofs.Ytigfncnlhccaeaa
open Go Go.Am
theorem works_eval : evCall E1 1000 6 [] [] = some (.pure (.bool true)) := by kernel_rfl

/-- The outside, with works known, too. -/
noncomputable def E2 : Env := E1.know 6 fun a => match a with | [] => some (.bool true) | _ => none
theorem E2_ok : E2.Ok := E1_ok.knowEval (fun _ => rfl) works_eval rfl
end Go.Proofs.Ytigfncnlhccaeaa
