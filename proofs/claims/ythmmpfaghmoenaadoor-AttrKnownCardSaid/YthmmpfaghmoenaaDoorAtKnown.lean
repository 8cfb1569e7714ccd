import Derived.Test.YthmmpfaghmoenaaDoorAtTab
namespace Go.Proofs.YthmmpfaghmoenaaDoor
open Go Go.Am
theorem works_eval : evCall E1 1000 10 [] [] = some (.pure (.bool true)) := by kernel_rfl
noncomputable def E2 : Env := E1.know 10 fun a => match a with | [] => some (.bool true) | _ => none
theorem E2_ok : E2.Ok := E1_ok.knowEval works_eval rfl
theorem known_eval : evCall E2 1000 9 [] [] = some (.pure (.bool true)) := by kernel_rfl
end Go.Proofs.YthmmpfaghmoenaaDoor
