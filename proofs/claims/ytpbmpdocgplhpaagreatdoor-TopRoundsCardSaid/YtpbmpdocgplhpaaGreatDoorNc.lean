/-
  The drawn regions that are not calm, and that all others are.
-/
import Derived.Test.YtpbmpdocgplhpaaGreatDoorAt4
import Derived.Test.YtpbmpdocgplhpaaGreatDoorProg
import Derived.KernelRfl
set_option maxRecDepth 100000
namespace Go.Proofs.YtpbmpdocgplhpaaGreatDoor
open Go Go.AM Go.AMT
/-- A function's number times 1000, and the region's number. -/
def ncL : List Nat := [14006, 32001, 39011, 53005, 53007, 69001, 93011, 93017, 93023, 93024, 94004, 114003, 159000]
def nc (f id : Nat) : Bool := ncL.any (Nat.beq (f * 1000 + id))
theorem calm_all : calmAll Tryz.prog nc = true := by kernel_rfl
end Go.Proofs.YtpbmpdocgplhpaaGreatDoor
