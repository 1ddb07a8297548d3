/-
  The contracts of AX5 hold: those of AX2, and the library's sort, Split and Join by their proved summaries.
-/
import Derived.Test.YtpbmpdocgplhpaaGreatDoorDec
import Derived.Test.YtpbmpdocgplhpaaGreatDoorEas
set_option linter.unusedSimpArgs false
set_option linter.unusedVariables false
set_option maxRecDepth 100000
namespace Go.Proofs.YtpbmpdocgplhpaaGreatDoor
open Go Go.AM

theorem AX5_ok {W : World} (S : Go.AM.Start Tryz.prog ρ0 H0 W) (T : Go.Lib.Utf8Tabs 3 4 W) : ExtOK Tryz.prog W AX5 := by
  intro f c hc
  rcases ax5_cases hc with ⟨rfl, rfl⟩ | ⟨rfl, rfl⟩ | ⟨rfl, rfl⟩ | ⟨rfl, rfl⟩ | ⟨rfl, rfl⟩
  · exact AX2_ok S T 21 _ (by kernel_rfl)
  · exact AX2_ok S T 137 _ (by kernel_rfl)
  · intro args h v h' hr ρ w args' H K ha; exact sort_fnok hr H ha
  · intro args h v h' hr ρ w args' H K ha; exact split_fnok hr H ha
  · intro args h v h' hr ρ w args' H K ha; exact join_fnok hr H ha
end Go.Proofs.YtpbmpdocgplhpaaGreatDoor
