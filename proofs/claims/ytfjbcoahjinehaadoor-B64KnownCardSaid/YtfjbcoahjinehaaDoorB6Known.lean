import Derived.Test.YtfjbcoahjinehaaDoorB6Works
namespace Go.Proofs.YtfjbcoahjinehaaDoor
open Go Go.Am
noncomputable def E1 : Env := E.know 12 fun a => match a with | [] => some (.bool true) | _ => none
theorem E1_ok : E1.Ok := E_ok.knowEval (fun _ => rfl) works_eval rfl
theorem known_eval : evCall E1 1000 7 [] [] = some (.pure (.bool true)) := by kernel_rfl
end Go.Proofs.YtfjbcoahjinehaaDoor
