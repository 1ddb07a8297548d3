/-
  THE CARD OF 'careenlaw11.YardFull'. By an AI agent. No person has read it.
-/
import Derived.Test.YtknpjlcgjlnfbaaGreatDoorFrw
import Derived.Test.YtknpjlcgjlnfbaaGreatDoorFst
set_option linter.unusedSimpArgs false
set_option linter.unusedVariables false
set_option maxRecDepth 100000
namespace Go.Proofs.YtknpjlcgjlnfbaaGreatDoor.yardFull
open Go Go.AM Go.ChangeShapes Go.WideShapes Go.ChangeAt Go.RowKit

/-- THE CARD. -/
theorem card : Rows.YardFullCardSaid :=
  Claim7.holds_tied_plain_at .later [] _ _ _ _ said (fun _ h => by cases h) cw (fun _ h => by cases h) yardFull_row_tie rfl ⟨rfl, rfl⟩ cm rfl plain cg
end Go.Proofs.YtknpjlcgjlnfbaaGreatDoor.yardFull
