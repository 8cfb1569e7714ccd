import Derived.Test.YtdgadbhgcpfajaaDoorCoEnv
namespace Go.Proofs.YtdgadbhgcpfajaaDoor
open Go Go.Am
theorem works_eval : evCall E 1000 9 [] [] = some (.pure (.bool true)) := by kernel_rfl
noncomputable def E1 : Env := E.know 9 fun a => match a with | [] => some (.bool true) | _ => none
theorem E1_ok : E1.Ok := E_ok.knowEval (fun _ => rfl) works_eval rfl
end Go.Proofs.YtdgadbhgcpfajaaDoor
