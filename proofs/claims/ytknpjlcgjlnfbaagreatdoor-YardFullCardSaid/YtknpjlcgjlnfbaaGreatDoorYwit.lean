/-
  A world in which the variables of the row's list read as they are laid.
-/
import Derived.Test.YtknpjlcgjlnfbaaGreatDoorYBase
set_option maxRecDepth 100000
namespace Go.Proofs.YtknpjlcgjlnfbaaGreatDoor
open Go Go.AM Go.ChangeShapes Go.WideShapes Go.ChangeAt Go.RowKit

/-- The numbers of a flat datum. -/
def cellsOfData : DataW Unit → List Value
  | .agg l => l.flatMap fun d => match d with
    | .lit (.int k n) => [.int k n]
    | .agg m => m.flatMap fun e => match e with
      | .lit (.int k n) => [.int k n]
      | _ => []
    | _ => []
  | _ => []
def withCells (cs : Array Value) : Obj → Obj
  | .cells _ t frozen => .cells cs t frozen
  | o => o
def rngS : ByteArray := { data := #[118, 97, 108, 117, 101, 32, 111, 117, 116, 32, 111, 102, 32, 114, 97, 110, 103, 101] }
def synS : ByteArray := { data := #[105, 110, 118, 97, 108, 105, 100, 32, 115, 121, 110, 116, 97, 120] }
noncomputable def low : Nat := (World.holding Tryz.prog default ⟨#[], #[], []⟩).heap.size
noncomputable def laidHeap (h : Array Obj) : Array Obj :=
  ((((((((((h.modify 3 (withCells #[.iface 372 (.agg #[.pointer (some ⟨12, 119, none⟩)])])).modify 7 (withCells (cellsOfData Rows.laid_internal_strconv_uint64pow10).toArray)).modify 0 (withCells #[.int .i64 (-1), .int .i64 (-1), .int .i64 (-1)])).modify 2 (withCells #[.int .i64 0, .int .i64 1])).modify 8
    (withCells #[.iface 453 (.pointer (some ⟨low, 0, none⟩))])).modify 9 (withCells #[.iface 453 (.pointer (some ⟨low + 1, 0, none⟩))])).modify 5 (withCells (cellsOfData Rows.laid_math_bits_deBruijn32tab).toArray)).modify 6 (withCells (cellsOfData Rows.laid_math_bits_deBruijn64tab).toArray)).modify 10
    (withCells (cellsOfData Rows.laid_unicode_utf8_first).toArray)).modify 11 (withCells (cellsOfData Rows.laid_unicode_utf8_acceptRanges).toArray))
noncomputable def laidWorld (os : Os) : World :=
  let w := World.holding Tryz.prog os ⟨#[.cells #[.string synS] 455, .cells #[.string rngS] 455], #[], []⟩
  { w with heap := laidHeap w.heap }
theorem laid_met (os : Os) (args : Array Value) : laidMetH Tryz.prog seatLaid ((laidWorld os).forCall (fun _ _ => 0) ⟨#[], args, []⟩).memory :=
  laidMetH_of_parts (laidMet_of_run' 8 (by kernel_rfl) (by kernel_rfl)) (by kernel_rfl)
end Go.Proofs.YtknpjlcgjlnfbaaGreatDoor
