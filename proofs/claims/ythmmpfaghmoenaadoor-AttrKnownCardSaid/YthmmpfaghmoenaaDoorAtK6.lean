/-
  Closed evaluations, by the kernel (7016 steps).
-/
import Derived.Test.YthmmpfaghmoenaaDoorAtEnv
namespace Go.Proofs.YthmmpfaghmoenaaDoor
open Go Go.Am
theorem atk22 : evCall E 1000 27 [(.str [57, 55, 59, 49, 48, 48])] [] = some (.pure (.agg [(.int .u8 1), (.int .u8 15), (.int .u8 0), (.int .u8 0), (.int .u8 1), (.int .u8 8), (.int .u8 0), (.int .u8 0), (.int .u16 0)])) := by kernel_rfl
theorem atk23 : evCall E 1000 27 [(.str [52, 59, 50, 49])] [] = some (.pure (.agg [(.int .u8 0), (.int .u8 0), (.int .u8 0), (.int .u8 0), (.int .u8 0), (.int .u8 0), (.int .u8 0), (.int .u8 0), (.int .u16 256)])) := by kernel_rfl
theorem atk24 : evCall E 1000 27 [(.str [50, 49, 59, 52])] [] = some (.pure (.agg [(.int .u8 0), (.int .u8 0), (.int .u8 0), (.int .u8 0), (.int .u8 0), (.int .u8 0), (.int .u8 0), (.int .u8 0), (.int .u16 8)])) := by kernel_rfl
theorem atk25 : evCall E 1000 27 [(.str [49, 59, 51, 49])] [] = some (.pure (.agg [(.int .u8 1), (.int .u8 1), (.int .u8 0), (.int .u8 0), (.int .u8 0), (.int .u8 0), (.int .u8 0), (.int .u8 0), (.int .u16 1)])) := by kernel_rfl
end Go.Proofs.YthmmpfaghmoenaaDoor
