/-
  THE ABSTRACT EXECUTOR, SYMBOLICALLY: out of a loop.
-/
import Derived.Test.YtpbmpdocgplhpaaGreatDoorVc8
set_option linter.unusedSimpArgs false
set_option linter.unusedVariables false
namespace Go.AM
variable {P : Program} {X : Ext} {ro : Option Nat} {M : Nat} {K : List Fm} {e : AExit} {f : Nat → Value} {h : AHeap} {Q : AExit → FS → Prop}

/-- The frames behind the innermost block. -/
def brk : List Fm → List Fm
  | [] => []
  | .blk _ :: K => K
  | _ :: K => brk K

/-- Run total operations until no more than m frames are left. -/
def frunTo (P : Program) (M m : Nat) : Nat → List Fm → FS → List Fm × FS
  | 0, K, x => (K, x)
  | n + 1, K, x => bif Nat.ble K.length m then (K, x) else match fstep P M K x with
    | some (K', x') => frunTo P M m n K' x'
    | none => (K, x)
theorem Fin_runTo (m n : Nat) {K : List Fm} {x : FS} (k : Fin P X ro M (frunTo P M m n K x).1 .normal (frunTo P M m n K x).2 Q) : Fin P X ro M K .normal x Q := by
  induction n generalizing K x with
  | zero => exact k
  | succ n ih =>
    simp only [frunTo] at k
    cases hb : Nat.ble K.length m with
    | true => rw [hb] at k; exact k
    | false =>
      rw [hb] at k
      simp only [cond_false] at k
      split at k
      · rename_i K' x' h
        exact fstep_sound h (ih k)
      · exact k
theorem frunTo_h (m : Nat) : ∀ (n : Nat) (K : List Fm) (x : FS), (frunTo P M m n K x).2.h = x.h := by
  intro n
  induction n with
  | zero => intro K x; rfl
  | succ n ih =>
    intro K x
    simp only [frunTo]
    cases Nat.ble K.length m with
    | true => rfl
    | false =>
      simp only [cond_false]
      split
      · rename_i K' x' h
        rw [ih]
        have : frun P M 1 K x = (K', x') := by simp only [frun, h]
        have h2 := frun_h (P := P) (M := M) 1 K x
        rw [this] at h2; exact h2
      · rfl
/-- On, with no more than total operations, to frames that lie deeper. -/
theorem Esc (K' : List Fm) (h' : AHeap) (l : List (Nat × Value)) (hK : (frunTo P M K'.length 1000 K ⟨f, h⟩).1 = K') (hh : h = h') (hl : l.map (fun p => (frunTo P M K'.length 1000 K ⟨f, h⟩).2.f p.1) = l.map (·.2))
    (k : ∀ f, l.map (fun p => f p.1) = l.map (·.2) → Fin P X ro M K' .normal ⟨f, h'⟩ Q) : Fin P X ro M K .normal ⟨f, h⟩ Q := by
  subst hh
  have e : (frunTo P M K'.length 1000 K ⟨f, h⟩).2 = ⟨(frunTo P M K'.length 1000 K ⟨f, h⟩).2.f, h⟩ := by
    have := frunTo_h (P := P) (M := M) K'.length 1000 K ⟨f, h⟩
    generalize (frunTo P M K'.length 1000 K ⟨f, h⟩).2 = y at this ⊢
    cases y; simp only at this; subst this; rfl
  refine Fin_runTo K'.length 1000 ?_
  rw [hK, e]
  exact k _ hl
def isNil : List Fm → Bool
  | [] => true
  | _ => false
/-- At a function's end, without a return. -/
theorem Fin_e {x : FS} (hK : isNil K = true) (h : Q .normal x) : Fin P X ro M K .normal x Q := by
  cases K with
  | nil => exact Fin_nil h
  | cons a l => simp [isNil] at hK
def strOf : Option (TypeId × Value × Value) → ByteArray
  | some (_, .string s, _) => s
  | _ => .empty
/-- A byte of a string that need not be named. -/
theorem IdxV (t : TypeId) (kd : IntKind) (i : Int) (n : Nat) {it : TI} (hl : vIdx K f = some (t, .string (strOf (vIdx K f)), .int kd i)) (hn : onOK M K = true) (ht : ti P t = some it) (hk : it.d = .string)
    (hs : (strOf (vIdx K f)).size = n) (h0 : 0 ≤ i) (h1 : i < n) (k : ∀ c : UInt8, Fin P X ro M (onK M K) .normal ⟨fput f (onD M K) (.int .u8 c.toNat), h⟩ Q) : Fin P X ro M K .normal ⟨f, h⟩ Q :=
  IdxS t _ kd i ((strOf (vIdx K f))[i.toNat]'(by rw [hs]; omega)) hl hn ht hk h0 (getElem?_pos _ _ _) (k _)
def vClr (K : List Fm) (f : Nat → Value) : Option (TypeId × Value) :=
  match hop K with
  | some (.call { callee := .builtin .clear, args, argTypes }) => (match args.toList, argTypes.toList with
    | [x], [t] => some (t, fev f x)
    | _, _ => none)
  | _ => none
theorem Clr (t : TypeId) (x : Value) (h' : AHeap) (hl : vClr K f = some (t, x)) (hn : onOK M K = true) (hv : aclear P h t x = some h')
    (k : Fin P X ro M (onK M K) .normal ⟨fput f (onD M K) (.tuple #[]), h'⟩ Q) : Fin P X ro M K .normal ⟨f, h⟩ Q := by
  unfold vClr at hl
  split at hl
  · rename_i args argTypes ho
    split at hl
    · rename_i x' t' ha ht
      simp only [Option.some.injEq, Prod.mk.injEq] at hl
      obtain ⟨rfl, rfl⟩ := hl
      refine Fin_head (.tuple #[]) h' (head_of ho ?_) hn k
      simp only [aop, apure, aread, aeff, ha, ht, hv]
    · simp at hl
  · simp at hl
def yieldV (K : List Fm) (f : Nat → Value) : Option (Nat × List Value) :=
  match hop K with
  | some (.call { callee := .value fo, args, .. }) => (match fev f fo with
    | .func (.yield l) _ _ => some (l, args.toList.map (fev f))
    | _ => none)
  | _ => none
theorem hop_eq {op : Op} (ho : hop K = some op) : ∃ all o r K0, K = .ops all (o :: r) :: K0 ∧ o.guard = none ∧ o.op = op := by
  unfold hop at ho
  split at ho
  · rename_i all o r K0
    split at ho
    · simp at ho
    · rename_i hg
      simp only [Option.some.injEq] at ho
      exact ⟨all, o, r, K0, rfl, hg, ho⟩
  · simp at ho
/-- A call of yield. -/
theorem Fin_yield (l : Nat) (args : List Value) {C : Value → AHeap → Prop} (hc : yieldV K f = some (l, args)) (hn : onOK M K = true) (c : Ca P X (.yield l) args h C)
    (k : ∀ v h', C v h' → Fin P X ro M (onK M K) .normal ⟨fput f (onD M K) v, h'⟩ Q) : Fin P X ro M K .normal ⟨f, h⟩ Q := by
  obtain ⟨N, v, h', hC, hN⟩ := c
  unfold yieldV at hc
  split at hc
  · rename_i fo args' at' ho
    split at hc
    · rename_i l' x y hf
      simp only [Option.some.injEq, Prod.mk.injEq] at hc
      obtain ⟨rfl, rfl⟩ := hc
      obtain ⟨all, o, r, K0, rfl, hg, hop⟩ := hop_eq ho
      have hx := onext_of hn
      simp only [onext, hg] at hx
      cases hd : dstIn M o.dst with
      | false => rw [hd] at hx; simp at hx
      | true =>
        rw [hd] at hx
        simp only [cond_true, Option.some.injEq, Prod.mk.injEq] at hx
        have k := k v h' hC
        rw [← hx.1, ← hx.2] at k
        refine Fin_op hg hd ⟨N, fun n hn => ?_⟩ k
        rw [hop]
        simp only [aop, hf, callValue]
        exact hN n hn
    · simp at hc
  · simp at hc
/-- A conversion. -/
def vConv (K : List Fm) (f : Nat → Value) : Option (TypeId × TypeId × Value) := match hop K with | some (.convert s d x) => some (s, d, fev f x) | _ => none
theorem Conv (s d : TypeId) (x v : Value) (hl : vConv K f = some (s, d, x)) (hn : onOK M K = true) (hv : aconv P s d x = some v)
    (k : Fin P X ro M (onK M K) .normal ⟨fput f (onD M K) v, h⟩ Q) : Fin P X ro M K .normal ⟨f, h⟩ Q := by
  unfold vConv at hl
  split at hl
  · rename_i s' d' x' ho
    simp only [Option.some.injEq, Prod.mk.injEq] at hl
    obtain ⟨rfl, rfl, rfl⟩ := hl
    exact Fin_head v h (head_of ho (by simp only [aop, apure, hv])) hn k
  · simp at hl
/-- A slice of bytes made a string. -/
theorem ConvB (s d : TypeId) (x v : Value) (hl : vConv K f = some (s, d, x)) (hn : onOK M K = true) (h1 : aconv P s d x = none) (hv : abytes P h s d x = some v)
    (k : Fin P X ro M (onK M K) .normal ⟨fput f (onD M K) v, h⟩ Q) : Fin P X ro M K .normal ⟨f, h⟩ Q := by
  unfold vConv at hl
  split at hl
  · rename_i s' d' x' ho
    simp only [Option.some.injEq, Prod.mk.injEq] at hl
    obtain ⟨rfl, rfl, rfl⟩ := hl
    exact Fin_head v h (head_of ho (by simp only [aop, apure, aread, h1, hv])) hn k
  · simp at hl
end Go.AM
