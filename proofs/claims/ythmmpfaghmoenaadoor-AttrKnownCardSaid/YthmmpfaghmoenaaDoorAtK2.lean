/-
  Closed evaluations, by the kernel (7753 steps).
-/
import Derived.Test.YthmmpfaghmoenaaDoorAtEnv
namespace Go.Proofs.YthmmpfaghmoenaaDoor
open Go Go.Am
theorem atk6 : evCall E 1000 27 [(.str [52, 58, 49])] [] = some (.pure (.agg [(.int .u8 0), (.int .u8 0), (.int .u8 0), (.int .u8 0), (.int .u8 0), (.int .u8 0), (.int .u8 0), (.int .u8 0), (.int .u16 8)])) := by kernel_rfl
theorem atk7 : evCall E 1000 27 [(.str [52, 58, 50])] [] = some (.pure (.agg [(.int .u8 0), (.int .u8 0), (.int .u8 0), (.int .u8 0), (.int .u8 0), (.int .u8 0), (.int .u8 0), (.int .u8 0), (.int .u16 256)])) := by kernel_rfl
theorem atk8 : evCall E 1000 27 [(.str [51, 56, 59, 53, 59, 49, 58, 49, 59, 55])] [] = some (.pure (.agg [(.int .u8 0), (.int .u8 0), (.int .u8 0), (.int .u8 0), (.int .u8 0), (.int .u8 0), (.int .u8 0), (.int .u8 0), (.int .u16 32)])) := by kernel_rfl
theorem atk9 : evCall E 1000 23 [(.agg [(.int .u8 0), (.int .u8 0), (.int .u8 0), (.int .u8 0), (.int .u8 0), (.int .u8 0), (.int .u8 0), (.int .u8 0), (.int .u16 0)])] [] = some (.pure (.str [48])) := by kernel_rfl
end Go.Proofs.YthmmpfaghmoenaaDoor
