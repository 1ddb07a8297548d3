/-
  The drawn regions that are not calm, and that all others are.
-/
import Derived.Test.YtliggpbmaijfjaaGreatDoorAt4
import Derived.Test.YtliggpbmaijfjaaGreatDoorProg
import Derived.KernelRfl
set_option maxRecDepth 100000
namespace Go.Proofs.YtliggpbmaijfjaaGreatDoor
open Go Go.AM Go.AMT
/-- A function's number times 1000, and the region's number. -/
def ncL : List Nat := [21004, 21005, 21006, 21007, 35001, 57003, 62001, 69001, 70001, 79001, 94000, 111004, 116005, 118005, 119012, 122004, 156001, 157001, 165003, 165018, 165023, 165024, 169005, 169007, 183002, 189001, 189004, 189010, 206015, 212001, 215001, 226008, 228001, 238008, 254009, 267007, 267015, 270003, 270006, 270008, 272001, 280007, 347003, 350001, 351001, 352005, 353001, 355001, 356001, 360001, 364001]
def nc (f id : Nat) : Bool := ncL.any (Nat.beq (f * 1000 + id))
theorem calm_all : calmAll Tryz.prog nc = true := by kernel_rfl
end Go.Proofs.YtliggpbmaijfjaaGreatDoor
