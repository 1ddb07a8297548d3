/-
  YardFull: entries by the kernel (written by full2lean.py, merged by program).
-/
import Derived.Test.YtknpjlcgjlnfbaaGreatDoorFut
import Derived.KernelRfl
set_option maxRecDepth 100000
namespace Go.Proofs.YtknpjlcgjlnfbaaGreatDoor
theorem fu0E1_ok : stepOKm fu0E1 = true := by kernel_rfl
theorem fu0E2_ok : stepOKm fu0E2 = true := by kernel_rfl
theorem fu0E3_ok : stepOKm fu0E3 = true := by kernel_rfl
theorem fu0E4_ok : stepOKm fu0E4 = true := by kernel_rfl
theorem fu0E5_ok : stepOKm fu0E5 = true := by kernel_rfl
theorem fu0E6_ok : stepOKm fu0E6 = true := by kernel_rfl
theorem fu0E7_ok : stepOKm fu0E7 = true := by kernel_rfl
theorem fu0E8_ok : stepOKm fu0E8 = true := by kernel_rfl
theorem fu0E9_ok : stepOKm fu0E9 = true := by kernel_rfl
end Go.Proofs.YtknpjlcgjlnfbaaGreatDoor

set_option maxRecDepth 100000
namespace Go.Proofs.YtknpjlcgjlnfbaaGreatDoor
theorem fu0E10_ok : stepOKm fu0E10 = true := by kernel_rfl
theorem fu0E11_ok : stepOKm fu0E11 = true := by kernel_rfl
theorem fu0E12_ok : stepOKm fu0E12 = true := by kernel_rfl
theorem fu0E13_ok : stepOKm fu0E13 = true := by kernel_rfl
theorem fu0E14_ok : stepOKm fu0E14 = true := by kernel_rfl
theorem fu0E15_ok : stepOKm fu0E15 = true := by kernel_rfl
theorem fu0E16_ok : stepOKm fu0E16 = true := by kernel_rfl
theorem fu0E17_ok : stepOKm fu0E17 = true := by kernel_rfl
theorem fu0E18_ok : stepOKm fu0E18 = true := by kernel_rfl
end Go.Proofs.YtknpjlcgjlnfbaaGreatDoor

set_option maxRecDepth 100000
namespace Go.Proofs.YtknpjlcgjlnfbaaGreatDoor
theorem fu0E19_ok : stepOKm fu0E19 = true := by kernel_rfl
theorem fu0E20_ok : stepOKm fu0E20 = true := by kernel_rfl
theorem fu0E21_ok : stepOKm fu0E21 = true := by kernel_rfl
theorem fu0E22_ok : stepOKm fu0E22 = true := by kernel_rfl
theorem fu0E23_ok : stepOKm fu0E23 = true := by kernel_rfl
theorem fu0E24_ok : stepOKm fu0E24 = true := by kernel_rfl
theorem fu0E25_ok : stepOKm fu0E25 = true := by kernel_rfl
theorem fu0E26_ok : stepOKm fu0E26 = true := by kernel_rfl
theorem fu0E27_ok : stepOKm fu0E27 = true := by kernel_rfl
end Go.Proofs.YtknpjlcgjlnfbaaGreatDoor

set_option maxRecDepth 100000
namespace Go.Proofs.YtknpjlcgjlnfbaaGreatDoor
theorem fu1E1_ok : stepOKm fu1E1 = true := by kernel_rfl
theorem fu1E2_ok : stepOKm fu1E2 = true := by kernel_rfl
theorem fu1E3_ok : stepOKm fu1E3 = true := by kernel_rfl
theorem fu1E4_ok : stepOKm fu1E4 = true := by kernel_rfl
theorem fu1E5_ok : stepOKm fu1E5 = true := by kernel_rfl
theorem fu1E6_ok : stepOKm fu1E6 = true := by kernel_rfl
theorem fu1E7_ok : stepOKm fu1E7 = true := by kernel_rfl
end Go.Proofs.YtknpjlcgjlnfbaaGreatDoor

set_option maxRecDepth 100000
namespace Go.Proofs.YtknpjlcgjlnfbaaGreatDoor
theorem fu1E8_ok : stepOKm fu1E8 = true := by kernel_rfl
theorem fu1E9_ok : stepOKm fu1E9 = true := by kernel_rfl
theorem fu1E10_ok : stepOKm fu1E10 = true := by kernel_rfl
theorem fu1E11_ok : stepOKm fu1E11 = true := by kernel_rfl
theorem fu1E12_ok : stepOKm fu1E12 = true := by kernel_rfl
theorem fu1E13_ok : stepOKm fu1E13 = true := by kernel_rfl
theorem fu1E14_ok : stepOKm fu1E14 = true := by kernel_rfl
end Go.Proofs.YtknpjlcgjlnfbaaGreatDoor

set_option maxRecDepth 100000
namespace Go.Proofs.YtknpjlcgjlnfbaaGreatDoor
theorem fu1E15_ok : stepOKm fu1E15 = true := by kernel_rfl
theorem fu1E16_ok : stepOKm fu1E16 = true := by kernel_rfl
theorem fu1E17_ok : stepOKm fu1E17 = true := by kernel_rfl
theorem fu1E18_ok : stepOKm fu1E18 = true := by kernel_rfl
theorem fu1E19_ok : stepOKm fu1E19 = true := by kernel_rfl
end Go.Proofs.YtknpjlcgjlnfbaaGreatDoor
