/-
  Runs by the kernel.
-/
import Derived.Test.YtpbmpdocgplhpaaGreatDoorRpl
set_option maxRecDepth 100000
namespace Go.Proofs.YtpbmpdocgplhpaaGreatDoor
open Go Go.AM Go.AMT
noncomputable def is5 : Bool := match acallT Tryz.prog AXRT nc 300 (.fn 5) [] (TH.ofL H0) with
  | some (.bool b, _) => b
  | _ => false
theorem run5 : is5 = true := by kernel_rfl
theorem run7a : some5.all is7 = true := by kernel_rfl
theorem run7b : (bitsN 5).all is7 = true := by kernel_rfl
theorem run9a : some5.all is9 = true := by kernel_rfl
theorem run9b : (bitsN 5).all is9 = true := by kernel_rfl
end Go.Proofs.YtpbmpdocgplhpaaGreatDoor
