/- The kernel runs Laid(40, 60). -/
import Derived.Test.YtlelnfcjghemhaaGreatDoorC1
import Derived.KernelRfl
namespace Go.AE
open Go
set_option maxRecDepth 1000000
theorem laid_run : LaidRun := by
  unfold LaidRun
  kernel_rfl
end Go.AE
