/-
  Closed evaluations, by the kernel (7997 steps).
-/
import Derived.Test.YthmmpfaghmoenaaDoorAtEnv
namespace Go.Proofs.YthmmpfaghmoenaaDoor
open Go Go.Am
theorem atk14 : evCall E 1000 27 [(.str [51, 56, 59, 50, 58, 49, 59, 49])] [] = some (.pure (.agg [(.int .u8 0), (.int .u8 0), (.int .u8 0), (.int .u8 0), (.int .u8 0), (.int .u8 0), (.int .u8 0), (.int .u8 0), (.int .u16 1)])) := by kernel_rfl
theorem atk15 : evCall E 1000 27 [(.str [52, 56, 59, 51, 56, 59, 49])] [] = some (.pure (.agg [(.int .u8 0), (.int .u8 0), (.int .u8 0), (.int .u8 0), (.int .u8 0), (.int .u8 0), (.int .u8 0), (.int .u8 0), (.int .u16 1)])) := by kernel_rfl
theorem atk16 : evCall E 1000 27 [(.str [51, 56, 58, 50, 58, 49, 58, 50])] [] = some (.pure (.agg [(.int .u8 0), (.int .u8 0), (.int .u8 0), (.int .u8 0), (.int .u8 0), (.int .u8 0), (.int .u8 0), (.int .u8 0), (.int .u16 0)])) := by kernel_rfl
theorem atk17 : evCall E 1000 27 [(.str [51, 56, 59, 53])] [] = some (.pure (.agg [(.int .u8 0), (.int .u8 0), (.int .u8 0), (.int .u8 0), (.int .u8 0), (.int .u8 0), (.int .u8 0), (.int .u8 0), (.int .u16 0)])) := by kernel_rfl
end Go.Proofs.YthmmpfaghmoenaaDoor
