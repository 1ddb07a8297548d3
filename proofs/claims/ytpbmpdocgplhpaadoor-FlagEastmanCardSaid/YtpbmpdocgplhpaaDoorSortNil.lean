/-
  'sorted' of nothing.
-/
import Derived.Test.YtpbmpdocgplhpaaDoorMD
import Derived.Test.YtpbmpdocgplhpaaDoorMV
set_option linter.unusedSimpArgs false
set_option linter.unusedVariables false
set_option maxRecDepth 100000
namespace Go.Proofs.YtpbmpdocgplhpaaDoor
open Go Go.AM

theorem ins_nil {X : Ext} (hX0 : X 100 = none) (h : AHeap) : Ca Tryd.prog X (.fn 100) [.slice none 0 0, I 0, I 0] h (fun v h' => h' = h) := by
  refine Ca_fn (fn := Tryd.f100) (c := Tryd.f100.body.getD .skip) hX0 (by kernel_rfl) (by kernel_rfl) (by kernel_rfl) ?_
  refine Run 1000 ?_
  refine Fin_unrl ?_
  refine RunA 1000 5 ?_
  exact Fin_e (by kernel_rfl) ⟨Or.inl rfl, .tuple #[], by kernel_rfl, rfl⟩
theorem pdq_nil {X : Ext} (hX91 : X 91 = none) (hX0 : X 100 = none) (lm : Int) (h : AHeap) : Ca Tryd.prog X (.fn 91) [.slice none 0 0, I 0, I 0, I lm] h (fun v h' => h' = h) := by
  refine Ca_fn (fn := Tryd.f91) (c := Tryd.f91.body.getD .skip) hX91 (by kernel_rfl) (by kernel_rfl) (by kernel_rfl) ?_
  refine Run 1000 ?_
  refine Fin_unrl ?_
  refine RunA 1000 1 ?_
  refine Fin_call 100 [.slice none 0 0, I 0, I 0] (by kernel_rfl) (by kernel_rfl) (ins_nil hX0 h) (fun v2 hh2 hv2 => ?_)
  refine Run 1000 ?_
  exact Fin_r (by kernel_rfl) ⟨Or.inr rfl, .tuple #[], by kernel_rfl, hv2⟩
theorem sort_nil {X : Ext} (x : SortN X) (h : AHeap) : Ca Tryd.prog X (.fn 78) [.slice none 0 0] h (fun v h' => h' = h) := by
  refine Ca_fn (fn := Tryd.f78) (c := Tryd.f78.body.getD .skip) x.x78 (by kernel_rfl) (by kernel_rfl) (by kernel_rfl) ?_
  refine Run 1000 ?_
  refine Fin_call 92 [.int .u64 0] (by kernel_rfl) (by kernel_rfl) (len_spec x.x92 x.x110 0 (by omega) (by omega) h) (fun v1 hh1 hv1 => ?_)
  obtain ⟨⟨r, rfl⟩, rfl⟩ := hv1
  refine Run 1000 ?_
  refine Fin_call 91 [.slice none 0 0, I 0, I 0, I r] (by kernel_rfl) (by kernel_rfl) (pdq_nil x.x91 x.x100 r _) (fun v2 hh2 hv2 => ?_)
  refine Run 1000 ?_
  exact Fin_e (by kernel_rfl) ⟨Or.inl rfl, .tuple #[], by kernel_rfl, hv2⟩
theorem sorted_nil {X : Ext} (hX64 : X 64 = none) (hX79 : X 79 = none) (hs : ∀ h, Ca Tryd.prog X (.fn 78) [.slice none 0 0] h (fun v h' => h' = h)) (h : AHeap) : Ca Tryd.prog X (.fn 64) [.slice none 0 0] h (fun v h' => v = .slice none 0 0 ∧ h' = h) := by
  have c79 : ∀ h, Ca Tryd.prog X (.fn 79) [.slice none 0 0] h (fun v h' => v = .slice none 0 0 ∧ h' = h) := by
    intro h
    refine Ca_fn (fn := Tryd.f79) (c := Tryd.f79.body.getD .skip) hX79 (by kernel_rfl) (by kernel_rfl) (by kernel_rfl) ?_
    refine RunA 1000 3 ?_
    exact Fin_r (by kernel_rfl) ⟨Or.inr rfl, .slice none 0 0, by kernel_rfl, rfl, rfl⟩
  refine Ca_fn (fn := Tryd.f64) (c := Tryd.f64.body.getD .skip) hX64 (by kernel_rfl) (by kernel_rfl) (by kernel_rfl) ?_
  refine Run 1000 ?_
  refine Fin_call 78 [.slice none 0 0] (by kernel_rfl) (by kernel_rfl) (hs h) (fun v1 hh1 hv1 => ?_)
  subst hv1
  refine Run 1000 ?_
  refine Fin_call 79 [.slice none 0 0] (by kernel_rfl) (by kernel_rfl) (c79 hh1) (fun v2 hh2 hv2 => ?_)
  obtain ⟨rfl, rfl⟩ := hv2
  refine Run 1000 ?_
  exact Fin_r (by kernel_rfl) ⟨Or.inr rfl, .slice none 0 0, by kernel_rfl, rfl, rfl⟩
end Go.Proofs.YtpbmpdocgplhpaaDoor
