/-
  The reference's Has.
-/
import Derived.Test.YtpbmpdocgplhpaaDoorMinS
set_option linter.unusedSimpArgs false
set_option linter.unusedVariables false
set_option maxRecDepth 100000
namespace Go.Proofs.YtpbmpdocgplhpaaDoor
open Go Go.AM
theorem Has_spec {X : Ext} (hX : X 52 = none) (hX2 : X 57 = none) (h : AHeap) (a : Option Addr) (kk : Nat) (L : List ByteArray) (s : ByteArray) (hL : L.length < 9223372036854775807) (hs : Strs h a L) :
    Ca Tryd.prog X (.fn 52) [.slice a L.length kk, .string s] h (fun v h' => v = .bool (L.any fun x => seq x s) ∧ h' = h) := by
  refine Ca_fn (fn := Tryd.f52) (c := Tryd.f52.body.getD .skip) hX (by kernel_rfl) (by kernel_rfl) (by kernel_rfl) ?_
  refine Run 1000 ?_
  refine Fin_call 57 [.slice a L.length kk, .string s] (by kernel_rfl) (by kernel_rfl) (has_spec hX2 h a kk L s hL hs) (fun v h' hv => ?_)
  obtain ⟨rfl, rfl⟩ := hv
  refine Run 1000 ?_
  exact Fin_r (by kernel_rfl) ⟨Or.inr rfl, _, by kernel_rfl, rfl, rfl⟩
theorem turned_spec {X : Ext} (hX : X 65 = none) (w : ByteArray) (i : Nat) (hi : i ≤ w.size) (hw : w.size < 1000000) (h : AHeap) :
    Ca Tryd.prog X (.fn 65) [.string w, I i] h (fun v h' => v = .string (turnAt w i) ∧ h' = h) := by
  refine Ca_fn (fn := Tryd.f65) (c := Tryd.f65.body.getD .skip) hX (by kernel_rfl) (by kernel_rfl) (by kernel_rfl) ?_
  refine Run 1000 ?_
  refine Draw (by kernel_rfl) ?_
  refine Run 1000 ?_
  refine Slic 9 (.string w) (.string (w.extract i w.size)) (some (I i)) none none (by kernel_rfl) (by kernel_rfl) (slice_from w i hi) ?_
  refine Run 1000 ?_
  refine Slic 9 (.string w) (.string (w.extract 0 i)) none (some (I i)) none (by kernel_rfl) (by kernel_rfl) (slice_to w i hi) ?_
  refine Run 1000 ?_
  refine Bin .add 9 (.string (w.extract i w.size)) (.string (w.extract 0 i)) (.string (turnAt w i)) (by kernel_rfl) (by kernel_rfl) (by simp [abin, astr, turnAt, lim]; omega) ?_
  refine Run 1000 ?_
  exact Fin_r (by kernel_rfl) ⟨Or.inr rfl, .string (turnAt w i), by kernel_rfl, rfl, rfl⟩
end Go.Proofs.YtpbmpdocgplhpaaDoor
