/-
  awake and eleven answer true: as contracts.
-/
import Derived.Test.YtknpjlcgjlnfbaaGreatDoorAxy
set_option linter.unusedSimpArgs false
set_option linter.unusedVariables false
namespace Go.Proofs.YtknpjlcgjlnfbaaGreatDoor
open Go Go.AM
def callTrue : Option (Value × AHeap) → Bool
  | some (.bool b, _) => b
  | _ => false
theorem callTrue_spec {r : Option (Value × AHeap)} (h : callTrue r = true) : ∃ h', r = some (.bool true, h') := by
  unfold callTrue at h
  split at h
  · rename_i b h1; subst h; exact ⟨h1, rfl⟩
  · simp at h
def trueC : List Value → AHeap → Option (Value × AHeap) := fun args h => match args with | [] => some (.bool true, h) | _ => none
def AXW : Ext := fun f => bif Nat.beq f 34 then some trueC else bif Nat.beq f 22 then some trueC else AXL f
end Go.Proofs.YtknpjlcgjlnfbaaGreatDoor
