/-
  All entries of a run (written by steps2lean.py).
-/
import Derived.Test.YtliggpbmaijfjaaGreatDoorAwk0
import Derived.Test.YtliggpbmaijfjaaGreatDoorAwk1
import Derived.Test.YtliggpbmaijfjaaGreatDoorAwk2
import Derived.Test.YtliggpbmaijfjaaGreatDoorAwk3
set_option maxRecDepth 100000
namespace Go.Proofs.YtliggpbmaijfjaaGreatDoor
open Go Go.AM Go.AMT
theorem awTab_ok : ∀ e ∈ awTab, stepOK e = true := by
  intro e he
  unfold awTab at he
  simp only [List.mem_cons, List.not_mem_nil, or_false] at he
  rcases he with rfl | rfl | rfl | rfl | rfl | rfl | rfl | rfl | rfl | rfl | rfl | rfl | rfl | rfl | rfl
  · exact awE1_ok
  · exact awE2_ok
  · exact awE3_ok
  · exact awE4_ok
  · exact awE5_ok
  · exact awE6_ok
  · exact awE7_ok
  · exact awE8_ok
  · exact awE9_ok
  · exact awE10_ok
  · exact awE11_ok
  · exact awE12_ok
  · exact awE13_ok
  · exact awE14_ok
  · exact awE15_ok
end Go.Proofs.YtliggpbmaijfjaaGreatDoor
