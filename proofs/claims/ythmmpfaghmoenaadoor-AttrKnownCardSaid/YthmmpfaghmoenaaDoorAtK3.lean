/-
  Closed evaluations, by the kernel (7658 steps).
-/
import Derived.Test.YthmmpfaghmoenaaDoorAtEnv
namespace Go.Proofs.YthmmpfaghmoenaaDoor
open Go Go.Am
theorem atk10 : evCall E 1000 27 [(.str [52, 56, 58, 50, 58, 58, 49, 58, 50, 58, 51])] [] = some (.pure (.agg [(.int .u8 0), (.int .u8 0), (.int .u8 0), (.int .u8 0), (.int .u8 2), (.int .u8 1), (.int .u8 2), (.int .u8 3), (.int .u16 0)])) := by kernel_rfl
theorem atk11 : evCall E 1000 27 [(.str [51, 56, 59, 50, 59, 49, 59, 50])] [] = some (.pure (.agg [(.int .u8 0), (.int .u8 0), (.int .u8 0), (.int .u8 0), (.int .u8 0), (.int .u8 0), (.int .u8 0), (.int .u8 0), (.int .u16 0)])) := by kernel_rfl
theorem atk12 : evCall E 1000 27 [(.str [51, 56, 59, 53, 59, 59, 49])] [] = some (.pure (.agg [(.int .u8 1), (.int .u8 0), (.int .u8 0), (.int .u8 0), (.int .u8 0), (.int .u8 0), (.int .u8 0), (.int .u8 0), (.int .u16 1)])) := by kernel_rfl
theorem atk13 : evCall E 1000 23 [(.agg [(.int .u8 0), (.int .u8 0), (.int .u8 0), (.int .u8 0), (.int .u8 1), (.int .u8 15), (.int .u8 0), (.int .u8 0), (.int .u16 0)])] [] = some (.pure (.str [48, 59, 49, 48, 55])) := by kernel_rfl
end Go.Proofs.YthmmpfaghmoenaaDoor
