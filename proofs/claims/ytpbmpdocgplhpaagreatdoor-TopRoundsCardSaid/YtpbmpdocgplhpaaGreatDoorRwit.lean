/-
  A world in which the variables of the row's list read as they are laid.
-/
import Derived.Test.YtpbmpdocgplhpaaGreatDoorRbase
set_option maxRecDepth 100000
namespace Go.Proofs.YtpbmpdocgplhpaaGreatDoor
open Go Go.AM Go.ChangeShapes Go.WideShapes Go.ChangeAt Go.RowKit

/-- The numbers of a flat datum. -/
def cellsOfData : DataW Unit → List Value
  | .agg l => l.flatMap fun d => match d with
    | .lit (.int k n) => [.int k n]
    | .agg m => m.flatMap fun e => match e with
      | .lit (.int k n) => [.int k n]
      | _ => []
    | _ => []
  | _ => []
def withCells (cs : Array Value) : Obj → Obj
  | .cells _ t frozen => .cells cs t frozen
  | o => o
noncomputable def laidWorld (os : Os) : World :=
  let w := World.holding Tryz.prog os ⟨#[], #[], []⟩
  { w with heap := (((w.heap.modify 1 (withCells (cellsOfData Rows.laid_math_bits_deBruijn32tab).toArray)).modify 2 (withCells (cellsOfData Rows.laid_math_bits_deBruijn64tab).toArray)).modify 3 (withCells (cellsOfData Rows.laid_unicode_utf8_first).toArray)).modify 4 (withCells (cellsOfData Rows.laid_unicode_utf8_acceptRanges).toArray) }
theorem laid_met (os : Os) (args : Array Value) : laidMet Tryz.prog seatLaid ((laidWorld os).forCall (fun _ _ => 0) ⟨#[], args, []⟩).memory :=
  laidMet_of_run' 8 (by kernel_rfl) (by kernel_rfl)
end Go.Proofs.YtpbmpdocgplhpaaGreatDoor
