import Derived.Test.YtigfncnlhccaeaaWdWorks
namespace Go.Proofs.Ytigfncnlhccaeaa
open Go Go.Am
theorem known_eval : evCall E2 1000 5 [] [] = some (.pure (.bool true)) := by kernel_rfl
end Go.Proofs.Ytigfncnlhccaeaa
