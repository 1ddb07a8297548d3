/-
  THE ABSTRACT EXECUTOR, SYMBOLICALLY: calls of which the answer is told outright.
-/
import Derived.Test.YtpbmpdocgplhpaaGreatDoorVc13
set_option linter.unusedSimpArgs false
set_option linter.unusedVariables false
namespace Go.AM
variable {P : Program} {X : Ext} {ro : Option Nat} {M : Nat} {K : List Fm} {f : Nat → Value} {h : AHeap} {Q : AExit → FS → Prop}
/-- A call that answers V and leaves the heap H. -/
theorem CallE (g : FuncId) (args : List Value) (V : Value) (H : AHeap) (hc : callV K ⟨f, h⟩ = some (g, args)) (hn : onOK M K = true) (c : Ca P X (.fn g) args h (fun v h' => v = V ∧ h' = H))
    (k : Fin P X ro M (onK M K) .normal ⟨fput f (onD M K) V, H⟩ Q) : Fin P X ro M K .normal ⟨f, h⟩ Q :=
  Fin_call g args hc hn c (fun v h' e => by obtain ⟨e1, e2⟩ := e; subst e1 e2; exact k)
/-- A call that answers V and leaves a heap of which C tells. -/
theorem CallG (g : FuncId) (args : List Value) (V : Value) (C : AHeap → Prop) (hc : callV K ⟨f, h⟩ = some (g, args)) (hn : onOK M K = true) (c : Ca P X (.fn g) args h (fun v h' => v = V ∧ C h'))
    (k : ∀ h', C h' → Fin P X ro M (onK M K) .normal ⟨fput f (onD M K) V, h'⟩ Q) : Fin P X ro M K .normal ⟨f, h⟩ Q :=
  Fin_call g args hc hn c (fun v h' e => by obtain ⟨e1, e2⟩ := e; subst e1; exact k h' e2)
/-- A call of which C tells. -/
theorem CallX (g : FuncId) (args : List Value) {C : Value → AHeap → Prop} (hc : callV K ⟨f, h⟩ = some (g, args)) (hn : onOK M K = true) (c : Ca P X (.fn g) args h C)
    (k : ∀ v h', C v h' → Fin P X ro M (onK M K) .normal ⟨fput f (onD M K) v, h'⟩ Q) : Fin P X ro M K .normal ⟨f, h⟩ Q := Fin_call g args hc hn c k
/-- A store that leaves a heap of which C tells. -/
theorem StoreX (t : TypeId) (a v : Value) (C : AHeap → Prop) (hl : vStore K f = some (t, a, v)) (hn : onOK M K = true) (hv : ∃ h', astore P h t a v = some h' ∧ C h')
    (k : ∀ h', C h' → Fin P X ro M (onK M K) .normal ⟨fput f (onD M K) undef, h'⟩ Q) : Fin P X ro M K .normal ⟨f, h⟩ Q := by
  obtain ⟨h', e, c⟩ := hv
  exact Store t a v h' hl hn e (k h' c)
end Go.AM
