/- The kernel runs works(). -/
import Derived.Test.YtlelnfcjghemhaaGreatDoorC1
import Derived.KernelRfl
namespace Go.AE
open Go
set_option maxRecDepth 1000000
theorem works_run : WorksRun := by
  unfold WorksRun
  kernel_rfl
end Go.AE
