/-
  THE ABSTRACT EXECUTOR, SYMBOLICALLY: more operations in drawn regions.
-/
import Derived.Test.YtpbmpdocgplhpaaGreatDoorMV
set_option linter.unusedSimpArgs false
set_option linter.unusedVariables false
namespace Go.AM
variable {P : Program} {X : Ext} {ro : Option Nat} {M : Nat} {all : Array Oper} {f : Nat → Value} {h : AHeap} {R : FS → Prop}

/-- An operation of two operands. -/
def vdBin (all : Array Oper) (D : DS) (f : Nat → Value) : Option (BinOp × TypeId × Value × Value) := match dop all D f with
  | some o => (match o.op with | .binOp op t x y _ => some (op, t, fev f x, fev f y) | _ => none)
  | none => none
theorem DBin {D : DS} (op : BinOp) (t : TypeId) (x y v : Value) (hm : dstsIn M all = true) (hl : vdBin all D f = some (op, t, x, y)) (hv : abin P op t x y = some v)
    (k : FinD P X M all (dnext D) ⟨fput f (ddst all D) v, h⟩ R) : FinD P X M all D ⟨f, h⟩ R := by
  unfold vdBin at hl
  split at hl
  · rename_i o ho
    split at hl
    · rename_i op' t' x' y' r hop
      simp only [Option.some.injEq, Prod.mk.injEq] at hl
      obtain ⟨rfl, rfl, rfl, rfl⟩ := hl
      exact FinD_pure hm ho (by rw [hop]; rfl) (by rw [hop]; exact hv) k
    · simp at hl
  · simp at hl
/-- A store. -/
def vdStore (all : Array Oper) (D : DS) (f : Nat → Value) : Option (TypeId × Value × Value) := match dop all D f with
  | some o => (match o.op with | .store t a x => some (t, fev f a, fev f x) | _ => none)
  | none => none
theorem DStore {D : DS} (t : TypeId) (a v : Value) (h' : AHeap) (L : List (TypeId × Value × Value)) (hm : dstsIn M all = true) (hl : vdStore all D f = some (t, a, v)) (hL : dloads P all D = L) (hv : astore P h t a v = some h') (hh : ∀ p ∈ L, aload P h' p.1 p.2.1 = some p.2.2)
    (k : FinD P X M all (deff D h) ⟨fput f (ddst all D) undef, h'⟩ R) : FinD P X M all D ⟨f, h⟩ R := by
  unfold vdStore at hl
  split at hl
  · rename_i o ho
    split at hl
    · rename_i t' a' x' hop
      simp only [Option.some.injEq, Prod.mk.injEq] at hl
      obtain ⟨rfl, rfl, rfl⟩ := hl
      refine DEff L hm ho (by rw [hop]; rfl) hL ⟨0, fun n _ => ?_⟩ hh k
      rw [hop]
      simp only [aop, apure, aread, aeff, hv]
    · simp at hl
  · simp at hl
end Go.AM
