import Derived.Test.YtdgadbhgcpfajaaDoorCoWorks
namespace Go.Proofs.YtdgadbhgcpfajaaDoor
open Go Go.Am
theorem known_eval : evCall E1 1000 6 [] [] = some (.pure (.bool true)) := by kernel_rfl
end Go.Proofs.YtdgadbhgcpfajaaDoor
