/-
  Entries of a run, by the kernel (written by steps2lean.py).
-/
import Derived.Test.YtliggpbmaijfjaaGreatDoorAwt
import Derived.KernelRfl
set_option maxRecDepth 100000
namespace Go.Proofs.YtliggpbmaijfjaaGreatDoor
theorem awE4_ok : stepOK awE4 = true := by kernel_rfl
end Go.Proofs.YtliggpbmaijfjaaGreatDoor
