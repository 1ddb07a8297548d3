/-
  The drawn regions that are not calm, and that all others are.
-/
import Derived.Test.YtknpjlcgjlnfbaaGreatDoorAt4
import Derived.Test.YtknpjlcgjlnfbaaGreatDoorProg
import Derived.KernelRfl
set_option maxRecDepth 100000
namespace Go.Proofs.YtknpjlcgjlnfbaaGreatDoor
open Go Go.AM Go.AMT
/-- A function's number times 1000, and the region's number. -/
def ncL : List Nat := [8012, 9024, 10010, 10012, 10016, 10035, 11009, 11023, 12017, 12018, 12028, 25004, 30005, 31005, 47004, 49005, 51004, 53012, 73005, 73007, 85001, 96001, 96004, 96010, 105002, 115003, 115018, 115023, 115024, 143008, 148008, 150001, 159015, 163001, 166001, 168003, 173001, 180001, 181001, 190001, 208007, 211007, 211015, 214003, 214006, 214008, 216001, 226009, 234000, 251005, 292001, 293001, 370003, 372001, 374001, 375005, 376001, 380001, 381001, 383001, 385001]
def nc (f id : Nat) : Bool := ncL.any (Nat.beq (f * 1000 + id))
theorem calm_all : calmAll Tryz.prog nc = true := by kernel_rfl
end Go.Proofs.YtknpjlcgjlnfbaaGreatDoor
