/-
  The static facts of the row of YardVoid, together.
-/
import Derived.Test.YtliggpbmaijfjaaGreatDoorVjf
set_option maxRecDepth 100000
namespace Go.Proofs.YtliggpbmaijfjaaGreatDoor.yardVoid
open Go Go.ChangeShapes Go.WideShapes Go.RowKit
theorem closed : joinedFacts PP 5 FF SS CC = true := by
  unfold joinedFacts
  simp only [jf0, jf1, jf2, jf3, jf4, jf5, jf6, jf7, jf8, jf9, jf10, jf11, jf12, jf13, jf14, jf15, jf16, jf17, jf18, jf19, jf20, jf21, jf22, jf23, jf24, jf25, jf26, jf27, jf29, jf30, jf31, Bool.and_self]
  simp only [Bool.true_and, Bool.and_true]
  exact jf28
end Go.Proofs.YtliggpbmaijfjaaGreatDoor.yardVoid
