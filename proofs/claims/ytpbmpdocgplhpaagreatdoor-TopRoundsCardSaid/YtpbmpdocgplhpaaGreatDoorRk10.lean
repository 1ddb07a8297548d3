/-
  Runs by the kernel.
-/
import Derived.Test.YtpbmpdocgplhpaaGreatDoorRpl
set_option maxRecDepth 100000
namespace Go.Proofs.YtpbmpdocgplhpaaGreatDoor
theorem run10a : some5.all all10 = true := by kernel_rfl
end Go.Proofs.YtpbmpdocgplhpaaGreatDoor
