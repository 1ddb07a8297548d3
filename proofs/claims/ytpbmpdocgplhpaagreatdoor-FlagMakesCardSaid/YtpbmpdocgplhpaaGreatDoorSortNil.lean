/-
  'sorted' of nothing.
-/
import Derived.Test.YtpbmpdocgplhpaaGreatDoorMD
import Derived.Test.YtpbmpdocgplhpaaGreatDoorMV
set_option linter.unusedSimpArgs false
set_option linter.unusedVariables false
set_option maxRecDepth 100000
namespace Go.Proofs.YtpbmpdocgplhpaaGreatDoor
open Go Go.AM

theorem sorted_nil {X : Ext} (hX64 : X 29 = none) (hX79 : X 64 = none) (hs : ∀ h, Ca Tryz.prog X (.fn 63) [.slice none 0 0] h (fun v h' => h' = h)) (h : AHeap) : Ca Tryz.prog X (.fn 29) [.slice none 0 0] h (fun v h' => v = .slice none 0 0 ∧ h' = h) := by
  have c79 : ∀ h, Ca Tryz.prog X (.fn 64) [.slice none 0 0] h (fun v h' => v = .slice none 0 0 ∧ h' = h) := by
    intro h
    refine Ca_fn (fn := Tryz.f64) (c := Tryz.f64.body.getD .skip) hX79 (by kernel_rfl) (by kernel_rfl) (by kernel_rfl) ?_
    refine RunA 1000 3 ?_
    exact Fin_r (by kernel_rfl) ⟨Or.inr rfl, .slice none 0 0, by kernel_rfl, rfl, rfl⟩
  refine Ca_fn (fn := Tryz.f29) (c := Tryz.f29.body.getD .skip) hX64 (by kernel_rfl) (by kernel_rfl) (by kernel_rfl) ?_
  refine Run 1000 ?_
  refine Fin_call 63 [.slice none 0 0] (by kernel_rfl) (by kernel_rfl) (hs h) (fun v1 hh1 hv1 => ?_)
  subst hv1
  refine Run 1000 ?_
  refine Fin_call 64 [.slice none 0 0] (by kernel_rfl) (by kernel_rfl) (c79 hh1) (fun v2 hh2 hv2 => ?_)
  obtain ⟨rfl, rfl⟩ := hv2
  refine Run 1000 ?_
  exact Fin_r (by kernel_rfl) ⟨Or.inr rfl, .slice none 0 0, by kernel_rfl, rfl, rfl⟩
end Go.Proofs.YtpbmpdocgplhpaaGreatDoor
