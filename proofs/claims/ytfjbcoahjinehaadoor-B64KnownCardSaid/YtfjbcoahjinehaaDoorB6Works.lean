import Derived.Test.YtfjbcoahjinehaaDoorB6Env
namespace Go.Proofs.YtfjbcoahjinehaaDoor
open Go Go.Am
theorem works_eval : evCall E 1000 12 [] [] = some (.pure (.bool true)) := by kernel_rfl
end Go.Proofs.YtfjbcoahjinehaaDoor
