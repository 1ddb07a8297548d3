/-
  VC: a place of an array behind a pointer.
-/
import Derived.Test.YtpbmpdocgplhpaaGreatDoorVc11
set_option linter.unusedSimpArgs false
set_option linter.unusedVariables false
set_option maxRecDepth 100000
namespace Go.AM
open Go
section
variable {P : Program} {X : Ext} {ro : Option Nat} {M : Nat} {K : List Fm} {f : Nat → Value} {h : AHeap} {Q : AExit → FS → Prop}
theorem IdxP (t : TypeId) (b o n : Nat) (kd : IntKind) (i : Int) {e : TypeId} {it ie : TI} (hl : vIdxA K f = some (t, .pointer (some ⟨b, o, none⟩), .int kd i)) (hn : onOK M K = true)
    (ht : ti P t = some it) (hd : it.d = .array n e) (he : ti P e = some ie) (hs : ie.size = 1) (h0 : 0 ≤ i) (h1 : i < n)
    (k : Fin P X ro M (onK M K) .normal ⟨fput f (onD M K) (.pointer (some ⟨b, o + i.toNat * 1, none⟩)), h⟩ Q) : Fin P X ro M K .normal ⟨f, h⟩ Q := by
  unfold vIdxA at hl
  split at hl
  · rename_i t' x' i' ho
    simp only [Option.some.injEq, Prod.mk.injEq] at hl
    obtain ⟨rfl, hx, hi⟩ := hl
    obtain ⟨d, siz, by', ze⟩ := it
    simp only at hd; subst hd
    have : aindexAddr P t' (fev f x') (fev f i') = some (.pointer (some ⟨b, o + i.toNat * 1, none⟩)) := by
      rw [hx, hi]
      simp only [aindexAddr, ht, asIdx, he, hs]
      simp [h0, h1]
    exact Fin_head _ h (head_of ho (by simp only [aop, apure, this])) hn k
  · simp at hl
end
end Go.AM
