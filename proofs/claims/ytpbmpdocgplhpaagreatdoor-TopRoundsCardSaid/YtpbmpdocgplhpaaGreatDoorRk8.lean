/-
  Runs by the kernel.
-/
import Derived.Test.YtpbmpdocgplhpaaGreatDoorRpl
set_option maxRecDepth 100000
namespace Go.Proofs.YtpbmpdocgplhpaaGreatDoor
theorem run8a : some5.all is8 = true := by kernel_rfl
theorem run8b : (bitsN 5).all is8 = true := by kernel_rfl
end Go.Proofs.YtpbmpdocgplhpaaGreatDoor
