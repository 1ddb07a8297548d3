/-
  awake, run by the kernel on the bare heap, its lines being told by the table.
-/
import Derived.Test.YtliggpbmaijfjaaGreatDoorAwt
import Derived.Test.YtliggpbmaijfjaaGreatDoorVdr
import Derived.KernelRfl
set_option maxRecDepth 100000
namespace Go.Proofs.YtliggpbmaijfjaaGreatDoor
open Go Go.AM
theorem awake_run : callTrue (acall Tryz.prog (AXD awTab) 60 (.fn 18) [] H0) = true := by kernel_rfl
end Go.Proofs.YtliggpbmaijfjaaGreatDoor
