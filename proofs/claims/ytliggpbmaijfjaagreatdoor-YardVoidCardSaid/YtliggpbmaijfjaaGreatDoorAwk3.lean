/-
  Entries of a run, by the kernel (written by steps2lean.py).
-/
import Derived.Test.YtliggpbmaijfjaaGreatDoorAwt
import Derived.KernelRfl
set_option maxRecDepth 100000
namespace Go.Proofs.YtliggpbmaijfjaaGreatDoor
theorem awE12_ok : stepOK awE12 = true := by kernel_rfl
theorem awE14_ok : stepOK awE14 = true := by kernel_rfl
theorem awE15_ok : stepOK awE15 = true := by kernel_rfl
end Go.Proofs.YtliggpbmaijfjaaGreatDoor
