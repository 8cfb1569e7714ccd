/-
  Closed evaluations, by the kernel (7932 steps).
-/
import Derived.Test.YthmmpfaghmoenaaDoorAtEnv
namespace Go.Proofs.YthmmpfaghmoenaaDoor
open Go Go.Am
theorem atk18 : evCall E 1000 27 [(.str [49, 59, 50, 59, 50, 50])] [] = some (.pure (.agg [(.int .u8 0), (.int .u8 0), (.int .u8 0), (.int .u8 0), (.int .u8 0), (.int .u8 0), (.int .u8 0), (.int .u8 0), (.int .u16 0)])) := by kernel_rfl
theorem atk19 : evCall E 1000 27 [(.str [51, 56, 58, 53, 58, 50, 53, 54])] [] = some (.pure (.agg [(.int .u8 0), (.int .u8 0), (.int .u8 0), (.int .u8 0), (.int .u8 0), (.int .u8 0), (.int .u8 0), (.int .u8 0), (.int .u16 0)])) := by kernel_rfl
theorem atk20 : evCall E 1000 27 [(.str [51, 56, 59, 55, 59, 49])] [] = some (.pure (.agg [(.int .u8 0), (.int .u8 0), (.int .u8 0), (.int .u8 0), (.int .u8 0), (.int .u8 0), (.int .u8 0), (.int .u8 0), (.int .u16 1)])) := by kernel_rfl
theorem atk21 : evCall E 1000 23 [(.agg [(.int .u8 1), (.int .u8 9), (.int .u8 0), (.int .u8 0), (.int .u8 2), (.int .u8 1), (.int .u8 2), (.int .u8 3), (.int .u16 257)])] [] = some (.pure (.str [48, 59, 49, 59, 50, 49, 59, 57, 49, 59, 52, 56, 59, 50, 59, 49, 59, 50, 59, 51])) := by kernel_rfl
end Go.Proofs.YthmmpfaghmoenaaDoor
