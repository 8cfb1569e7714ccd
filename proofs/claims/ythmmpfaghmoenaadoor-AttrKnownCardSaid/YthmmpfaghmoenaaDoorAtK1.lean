/-
  Closed evaluations, by the kernel (7817 steps).
-/
import Derived.Test.YthmmpfaghmoenaaDoorAtEnv
namespace Go.Proofs.YthmmpfaghmoenaaDoor
open Go Go.Am
theorem atk3 : evCall E 1000 23 [(.agg [(.int .u8 1), (.int .u8 7), (.int .u8 0), (.int .u8 0), (.int .u8 1), (.int .u8 16), (.int .u8 0), (.int .u8 0), (.int .u16 511)])] [] = some (.pure (.str [48, 59, 49, 59, 50, 59, 51, 59, 52, 59, 53, 59, 55, 59, 56, 59, 57, 59, 50, 49, 59, 51, 55, 59, 52, 56, 59, 53, 59, 49, 54])) := by kernel_rfl
theorem atk4 : evCall E 1000 27 [(.str [51, 56, 59, 53, 59, 50, 48, 48, 59, 52])] [] = some (.pure (.agg [(.int .u8 1), (.int .u8 200), (.int .u8 0), (.int .u8 0), (.int .u8 0), (.int .u8 0), (.int .u8 0), (.int .u8 0), (.int .u16 8)])) := by kernel_rfl
theorem atk5 : evCall E 1000 27 [(.str [52, 58, 48])] [] = some (.pure (.agg [(.int .u8 0), (.int .u8 0), (.int .u8 0), (.int .u8 0), (.int .u8 0), (.int .u8 0), (.int .u8 0), (.int .u8 0), (.int .u16 0)])) := by kernel_rfl
end Go.Proofs.YthmmpfaghmoenaaDoor
