/-
  YardFull: entries by the kernel (written by full2lean.py, merged by program).
-/
import Derived.Test.YtknpjlcgjlnfbaaGreatDoorFut
import Derived.KernelRfl
set_option maxRecDepth 100000
namespace Go.Proofs.YtknpjlcgjlnfbaaGreatDoor
theorem fu2E1_ok : stepOKm fu2E1 = true := by kernel_rfl
theorem fu2E2_ok : stepOKm fu2E2 = true := by kernel_rfl
theorem fu2E3_ok : stepOKm fu2E3 = true := by kernel_rfl
theorem fu2E4_ok : stepOKm fu2E4 = true := by kernel_rfl
theorem fu2E5_ok : stepOKm fu2E5 = true := by kernel_rfl
theorem fu2E6_ok : stepOKm fu2E6 = true := by kernel_rfl
theorem fu2E7_ok : stepOKm fu2E7 = true := by kernel_rfl
end Go.Proofs.YtknpjlcgjlnfbaaGreatDoor

set_option maxRecDepth 100000
namespace Go.Proofs.YtknpjlcgjlnfbaaGreatDoor
theorem fu2E8_ok : stepOKm fu2E8 = true := by kernel_rfl
theorem fu2E9_ok : stepOKm fu2E9 = true := by kernel_rfl
theorem fu2E10_ok : stepOKm fu2E10 = true := by kernel_rfl
theorem fu2E11_ok : stepOKm fu2E11 = true := by kernel_rfl
theorem fu2E12_ok : stepOKm fu2E12 = true := by kernel_rfl
theorem fu2E13_ok : stepOKm fu2E13 = true := by kernel_rfl
theorem fu2E14_ok : stepOKm fu2E14 = true := by kernel_rfl
end Go.Proofs.YtknpjlcgjlnfbaaGreatDoor

set_option maxRecDepth 100000
namespace Go.Proofs.YtknpjlcgjlnfbaaGreatDoor
theorem fu2E15_ok : stepOKm fu2E15 = true := by kernel_rfl
theorem fu2E16_ok : stepOKm fu2E16 = true := by kernel_rfl
theorem fu2E17_ok : stepOKm fu2E17 = true := by kernel_rfl
theorem fu2E18_ok : stepOKm fu2E18 = true := by kernel_rfl
theorem fu2E19_ok : stepOKm fu2E19 = true := by kernel_rfl
end Go.Proofs.YtknpjlcgjlnfbaaGreatDoor

set_option maxRecDepth 100000
namespace Go.Proofs.YtknpjlcgjlnfbaaGreatDoor
theorem fu3E1_ok : stepOKm fu3E1 = true := by kernel_rfl
theorem fu3E2_ok : stepOKm fu3E2 = true := by kernel_rfl
theorem fu3E3_ok : stepOKm fu3E3 = true := by kernel_rfl
theorem fu3E4_ok : stepOKm fu3E4 = true := by kernel_rfl
theorem fu3E5_ok : stepOKm fu3E5 = true := by kernel_rfl
theorem fu3E6_ok : stepOKm fu3E6 = true := by kernel_rfl
theorem fu3E7_ok : stepOKm fu3E7 = true := by kernel_rfl
end Go.Proofs.YtknpjlcgjlnfbaaGreatDoor

set_option maxRecDepth 100000
namespace Go.Proofs.YtknpjlcgjlnfbaaGreatDoor
theorem fu3E8_ok : stepOKm fu3E8 = true := by kernel_rfl
theorem fu3E9_ok : stepOKm fu3E9 = true := by kernel_rfl
theorem fu3E10_ok : stepOKm fu3E10 = true := by kernel_rfl
theorem fu3E11_ok : stepOKm fu3E11 = true := by kernel_rfl
theorem fu3E12_ok : stepOKm fu3E12 = true := by kernel_rfl
theorem fu3E13_ok : stepOKm fu3E13 = true := by kernel_rfl
theorem fu3E14_ok : stepOKm fu3E14 = true := by kernel_rfl
end Go.Proofs.YtknpjlcgjlnfbaaGreatDoor

set_option maxRecDepth 100000
namespace Go.Proofs.YtknpjlcgjlnfbaaGreatDoor
theorem fu4E1_ok : stepOKm fu4E1 = true := by kernel_rfl
theorem fu4E2_ok : stepOKm fu4E2 = true := by kernel_rfl
theorem fu4E3_ok : stepOKm fu4E3 = true := by kernel_rfl
theorem fu4E4_ok : stepOKm fu4E4 = true := by kernel_rfl
theorem fu4E5_ok : stepOKm fu4E5 = true := by kernel_rfl
theorem fu4E6_ok : stepOKm fu4E6 = true := by kernel_rfl
end Go.Proofs.YtknpjlcgjlnfbaaGreatDoor

set_option maxRecDepth 100000
namespace Go.Proofs.YtknpjlcgjlnfbaaGreatDoor
theorem fu4E7_ok : stepOKm fu4E7 = true := by kernel_rfl
theorem fu4E8_ok : stepOKm fu4E8 = true := by kernel_rfl
theorem fu4E9_ok : stepOKm fu4E9 = true := by kernel_rfl
theorem fu4E10_ok : stepOKm fu4E10 = true := by kernel_rfl
theorem fu4E11_ok : stepOKm fu4E11 = true := by kernel_rfl
end Go.Proofs.YtknpjlcgjlnfbaaGreatDoor
