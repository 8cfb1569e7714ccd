/-
  Closed evaluations, by the kernel (7940 steps).
-/
import Derived.Test.YthmmpfaghmoenaaDoorAtEnv
namespace Go.Proofs.YthmmpfaghmoenaaDoor
open Go Go.Am
theorem atk0 : evCall E 1000 27 [(.str [54, 59, 49, 48, 59, 50, 54, 59, 53, 48, 59, 57, 56, 59, 49, 48, 56])] [] = some (.pure (.agg [(.int .u8 0), (.int .u8 0), (.int .u8 0), (.int .u8 0), (.int .u8 0), (.int .u8 0), (.int .u8 0), (.int .u8 0), (.int .u16 0)])) := by kernel_rfl
theorem atk1 : evCall E 1000 27 [(.str [51, 56, 59, 50, 59, 49, 59, 50, 59, 51, 48, 48, 59, 49])] [] = some (.pure (.agg [(.int .u8 0), (.int .u8 0), (.int .u8 0), (.int .u8 0), (.int .u8 0), (.int .u8 0), (.int .u8 0), (.int .u8 0), (.int .u16 1)])) := by kernel_rfl
theorem atk2 : evCall E 1000 27 [(.str [51, 56, 58, 53])] [] = some (.pure (.agg [(.int .u8 0), (.int .u8 0), (.int .u8 0), (.int .u8 0), (.int .u8 0), (.int .u8 0), (.int .u8 0), (.int .u8 0), (.int .u16 0)])) := by kernel_rfl
end Go.Proofs.YthmmpfaghmoenaaDoor
