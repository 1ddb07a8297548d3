/-
  YardVoid, run by the kernel on the bare heap, awake being told.
-/
import Derived.Test.YtliggpbmaijfjaaGreatDoorAxy
import Derived.KernelRfl
set_option linter.unusedSimpArgs false
set_option linter.unusedVariables false
set_option maxRecDepth 100000
namespace Go.Proofs.YtliggpbmaijfjaaGreatDoor
open Go Go.AM
def callTrue : Option (Value × AHeap) → Bool
  | some (.bool b, _) => b
  | _ => false
theorem callTrue_spec {r : Option (Value × AHeap)} (h : callTrue r = true) : ∃ h', r = some (.bool true, h') := by
  unfold callTrue at h
  split at h
  · rename_i b h1; subst h; exact ⟨h1, rfl⟩
  · simp at h
/-- awake answers true. -/
def awakeC : List Value → AHeap → Option (Value × AHeap) := fun args h => match args with | [] => some (.bool true, h) | _ => none
def AXW : Ext := fun f => bif Nat.beq f 18 then some awakeC else AXL f
theorem void_run (line : ByteArray) : callTrue (acall Tryz.prog AXW 60 (.fn 5) [.string line] H0) = true := by kernel_rfl
end Go.Proofs.YtliggpbmaijfjaaGreatDoor
