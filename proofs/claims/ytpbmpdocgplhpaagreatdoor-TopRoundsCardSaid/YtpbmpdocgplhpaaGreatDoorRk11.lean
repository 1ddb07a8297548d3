/-
  Runs by the kernel.
-/
import Derived.Test.YtpbmpdocgplhpaaGreatDoorRpl
set_option maxRecDepth 100000
namespace Go.Proofs.YtpbmpdocgplhpaaGreatDoor
theorem run10b1 : ((bitsN 5).take 8).all all10 = true := by kernel_rfl
theorem run10b2 : (((bitsN 5).drop 8).take 8).all all10 = true := by kernel_rfl
theorem run10b3 : (((bitsN 5).drop 16).take 8).all all10 = true := by kernel_rfl
theorem run10b4 : ((bitsN 5).drop 24).all all10 = true := by kernel_rfl
end Go.Proofs.YtpbmpdocgplhpaaGreatDoor
