/-
  The contracts that the walks of the laws lean on: those of AX2, and the library's Contains.
-/
import Derived.Test.YtpbmpdocgplhpaaDoorAx2
import Derived.Test.YtpbmpdocgplhpaaDoorIsCl2
import Derived.Test.YtpbmpdocgplhpaaDoorMI
set_option linter.unusedSimpArgs false
set_option linter.unusedVariables false
set_option maxRecDepth 100000
namespace Go.Proofs.YtpbmpdocgplhpaaDoor
open Go Go.AM

def AX3 : Ext := fun f => bif Nat.beq f 22 then some awakeC else bif Nat.beq f 99 then some decC else bif Nat.beq f 70 then some contC else none
theorem sortX3 : SortX AX3 := ⟨by kernel_rfl, by kernel_rfl, by kernel_rfl, by kernel_rfl, by kernel_rfl, by kernel_rfl, by kernel_rfl, by kernel_rfl, by kernel_rfl⟩
theorem ringX3 : RingX AX3 := ⟨sortX3, by kernel_rfl, by kernel_rfl, by kernel_rfl, by kernel_rfl, by kernel_rfl, by kernel_rfl, by kernel_rfl⟩
theorem overX3 : OverX AX3 := ⟨by kernel_rfl, by kernel_rfl, by kernel_rfl, by kernel_rfl⟩
theorem wordX3 : WordX AX3 := ⟨overX3, ringX3, by kernel_rfl, by kernel_rfl, by kernel_rfl, by kernel_rfl⟩
theorem refX3 : RefX AX3 := ⟨by kernel_rfl, by kernel_rfl, by kernel_rfl, by kernel_rfl, by kernel_rfl⟩
theorem readX3 : ReadX AX3 := ⟨by kernel_rfl, by kernel_rfl, by kernel_rfl, by kernel_rfl, by kernel_rfl, by kernel_rfl, by kernel_rfl, by kernel_rfl, by kernel_rfl⟩
theorem awake_ca3 (h : AHeap) : Ca Tryd.prog AX3 (.fn 22) [] h (fun v h' => v = .bool true ∧ h' = h) :=
  Ca_ext (c := awakeC) (by kernel_rfl) rfl ⟨rfl, rfl⟩

end Go.Proofs.YtpbmpdocgplhpaaDoor
