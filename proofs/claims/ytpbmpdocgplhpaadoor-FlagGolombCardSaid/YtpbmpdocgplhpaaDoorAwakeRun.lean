/-
  'awake', run once by the kernel on the bare heap.
-/
import Derived.Test.YtpbmpdocgplhpaaDoorAm16
import Derived.Test.YtpbmpdocgplhpaaDoorProg
import Derived.KernelRfl
set_option maxRecDepth 100000
namespace Go.Proofs.YtpbmpdocgplhpaaDoor
open Go Go.AM
def H0 : AHeap := [.row [.int .i64 (-1), .int .i64 (-1), .int .i64 (-1)] false, .dead, .dead, .dead]
def callTrue : Option (Value × AHeap) → Bool
  | some (.bool b, _) => b
  | _ => false
theorem callTrue_spec {r : Option (Value × AHeap)} (h : callTrue r = true) : ∃ h', r = some (.bool true, h') := by
  unfold callTrue at h
  split at h
  · rename_i b h1; subst h; exact ⟨h1, rfl⟩
  · simp at h
theorem awake_run : callTrue (acall Tryd.prog (fun _ => none) 60 (.fn 22) [] H0) = true := by kernel_rfl
end Go.Proofs.YtpbmpdocgplhpaaDoor
