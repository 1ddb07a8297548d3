/-
  Entries of a run, by the kernel (written by steps2lean.py).
-/
import Derived.Test.YtliggpbmaijfjaaGreatDoorAwt
import Derived.KernelRfl
set_option maxRecDepth 100000
namespace Go.Proofs.YtliggpbmaijfjaaGreatDoor
theorem awE1_ok : stepOK awE1 = true := by kernel_rfl
theorem awE2_ok : stepOK awE2 = true := by kernel_rfl
theorem awE3_ok : stepOK awE3 = true := by kernel_rfl
theorem awE5_ok : stepOK awE5 = true := by kernel_rfl
theorem awE6_ok : stepOK awE6 = true := by kernel_rfl
theorem awE7_ok : stepOK awE7 = true := by kernel_rfl
theorem awE9_ok : stepOK awE9 = true := by kernel_rfl
theorem awE10_ok : stepOK awE10 = true := by kernel_rfl
theorem awE11_ok : stepOK awE11 = true := by kernel_rfl
theorem awE13_ok : stepOK awE13 = true := by kernel_rfl
end Go.Proofs.YtliggpbmaijfjaaGreatDoor
