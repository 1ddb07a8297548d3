/-
  The contracts that the walks of the laws lean on: awake, and the library's last rune of a string.
-/
import Derived.Test.YtpbmpdocgplhpaaDoorMF
import Derived.Test.YtpbmpdocgplhpaaDoorLawKit
import Derived.Test.YtpbmpdocgplhpaaDoorME
set_option linter.unusedSimpArgs false
set_option linter.unusedVariables false
set_option maxRecDepth 100000
namespace Go.Proofs.YtpbmpdocgplhpaaDoor
open Go Go.AM

def awakeC : List Value → AHeap → Option (Value × AHeap) := fun args h => match args with | [] => some (.bool true, h) | _ => none
def AX2 : Ext := fun f => bif Nat.beq f 22 then some awakeC else bif Nat.beq f 99 then some decC else none
theorem sortN2 : SortN AX2 := ⟨by kernel_rfl, by kernel_rfl, by kernel_rfl, by kernel_rfl, by kernel_rfl, by kernel_rfl, by kernel_rfl, by kernel_rfl, by kernel_rfl⟩
theorem sortX2 : SortX AX2 := sortN2.x
theorem ringX2 : RingX AX2 := ⟨sortX2, by kernel_rfl, by kernel_rfl, by kernel_rfl, by kernel_rfl, by kernel_rfl, by kernel_rfl, by kernel_rfl⟩
theorem overX2 : OverX AX2 := ⟨by kernel_rfl, by kernel_rfl, by kernel_rfl, by kernel_rfl⟩
theorem wordX2 : WordX AX2 := ⟨overX2, ringX2, by kernel_rfl, by kernel_rfl, by kernel_rfl, by kernel_rfl⟩
theorem refX2 : RefX AX2 := ⟨by kernel_rfl, by kernel_rfl, by kernel_rfl, by kernel_rfl, by kernel_rfl⟩
theorem awake_ca2 (h : AHeap) : Ca Tryd.prog AX2 (.fn 22) [] h (fun v h' => v = .bool true ∧ h' = h) :=
  Ca_ext (c := awakeC) (by kernel_rfl) rfl ⟨rfl, rfl⟩
end Go.Proofs.YtpbmpdocgplhpaaDoor
