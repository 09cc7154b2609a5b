/- The kernel runs StoreNil. -/
import Derived.Test.YtlelnfcjghemhaaGreatDoorC1
import Derived.KernelRfl
namespace Go.AE
open Go
set_option maxRecDepth 1000000
theorem nil_run : NilRun := by
  unfold NilRun
  kernel_rfl
end Go.AE
