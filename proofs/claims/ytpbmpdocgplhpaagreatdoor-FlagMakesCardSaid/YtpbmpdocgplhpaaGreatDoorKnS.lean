/-
  The law's kn.
-/
import Derived.Test.YtpbmpdocgplhpaaGreatDoorLawKit
set_option linter.unusedSimpArgs false
set_option linter.unusedVariables false
set_option maxRecDepth 100000
namespace Go.Proofs.YtpbmpdocgplhpaaGreatDoor
open Go Go.AM

theorem kn_spec {X : Ext} (hX : X 20 = none) (k n : Int) (h : AHeap) : Ca Tryz.prog X (.fn 20) [I k, I n] h (fun v h' => v = .tuple #[I (norm 4 k), I (norm 5 n)] ∧ h' = h) := by
  refine Ca_fn (fn := Tryz.f20) (c := Tryz.f20.body.getD .skip) hX (by kernel_rfl) (by kernel_rfl) (by kernel_rfl) ?_
  refine Run 1000 ?_
  exact Fin_r (by kernel_rfl) ⟨Or.inr rfl, .tuple #[I (norm 4 k), I (norm 5 n)], by kernel_rfl, rfl, rfl⟩

end Go.Proofs.YtpbmpdocgplhpaaGreatDoor
