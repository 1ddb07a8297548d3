/-
  THE ABSTRACT EXECUTOR, SYMBOLICALLY: a runner that takes decisions whose Bool is written out.
-/
import Derived.Test.YtpbmpdocgplhpaaGreatDoorVc10
set_option linter.unusedSimpArgs false
set_option linter.unusedVariables false
namespace Go.AM
variable {P : Program} {X : Ext} {ro : Option Nat} {M : Nat} {K : List Fm} {f : Nat → Value} {h : AHeap} {Q : AExit → FS → Prop}

/-- Guards on a slot that holds no Bool: nothing behind them is wanted. -/
def gresU (j : Nat) : List Oper → List Oper
  | [] => []
  | o :: r => (match gOf j o with
    | some _ => { o with guard := none, op := .move (.const undef) }
    | none => o) :: gresU j r
theorem gresU_eq {call : ACall} {all : Array Oper} {j d : Nat} {u : Value} (hu : ∀ b, u ≠ .bool b) (hj : (all[j]?).bind (·.dst) = some d) : ∀ {r : List Oper} {s : St}, keepsSlot d r = true → s.t[d]? = some u →
    aopsL P call all r s = aopsL P call all (gresU j r) s := by
  intro r
  induction r with
  | nil => intro s _ _; rfl
  | cons o r ih =>
    intro s hk hs
    simp only [keepsSlot, Bool.and_eq_true] at hk
    obtain ⟨hk1, hk2⟩ := hk
    have keep : ∀ v h, (⟨aput s.t o.dst v, h⟩ : St).t[d]? = some u := by
      intro v h
      cases hd : o.dst with
      | none => simpa [aput] using hs
      | some d' =>
        rw [hd] at hk1
        have hne : d' ≠ d := by intro e; subst e; simp at hk1
        simp only [aput]
        rw [List.getElem?_set, if_neg hne]; exact hs
    have hy : ayielded all s.t j = none := by
      unfold ayielded
      rw [hj, Option.bind_some, hs]
      split
      · rename_i b hb; simp only [Option.some.injEq] at hb; exact absurd hb (hu b)
      · rfl
    simp only [gresU, gOf]
    cases hg : o.guard with
    | none =>
      simp only [aopsL]
      split
      · split
        · exact ih hk2 (keep _ _)
        · rfl
      · exact ih hk2 (keep _ _)
    | some q =>
      obtain ⟨i, w⟩ := q
      simp only
      by_cases hi : i = j
      · subst hi
        simp only [Nat.beq_refl, cond_true, aopsL, Region.wanted, hg, hy]
        rw [if_neg (by simp)]
        simp only [if_true, aop, apure, aeval]
        exact ih hk2 (keep _ _)
      · have : Nat.beq i j = false := by
          rw [Bool.eq_false_iff]; intro e'; exact hi (Nat.eq_of_beq_eq_true e')
        simp only [this, cond_false, aopsL]
        split
        · split
          · exact ih hk2 (keep _ _)
          · rfl
        · exact ih hk2 (keep _ _)
def gnextU (j : Nat) (K : List Fm) : List Fm :=
  match K with
  | .ops all l :: K => .ops all (gresU j l) :: K
  | K => K
theorem Fin_gU {x : FS} (hg : gOK M K = true) (hv : ∀ b, x.f (gD K) ≠ .bool b) (k : Fin P X ro M (gnextU (gJ K) K) .normal x Q) : Fin P X ro M K .normal x Q := by
  simp only [gOK, Bool.and_eq_true] at hg
  obtain ⟨h1, h2⟩ := hg
  obtain ⟨q, hq⟩ := Option.isSome_iff_exists.1 h1
  obtain ⟨j, d⟩ := q
  have hj : gJ K = j := by simp [gJ, hq]
  have hd : gD K = d := by simp [gD, hq]
  rw [hj] at k
  rw [hd] at h2 hv
  unfold gslot at hq
  split at hq
  · rename_i all o r K'
    split at hq
    · rename_i j' w hgd
      split at hq
      · rename_i d' hd'
        cases hks : keepsSlot d' (o :: r) with
        | false => rw [hks] at hq; simp at hq
        | true =>
          rw [hks] at hq
          simp only [cond_true, Option.some.injEq, Prod.mk.injEq] at hq
          obtain ⟨rfl, rfl⟩ := hq
          intro s rp
          obtain ⟨N, e1, s1, x1, a, bb, c⟩ := k s rp
          refine ⟨N, e1, s1, x1, a, bb, fun n m hn hm => ?_⟩
          have h3 := c n m hn hm
          have hlt : d' < M := Nat.le_of_ble_eq_true (by simpa only [Nat.blt] using h2)
          have hs : s.t[d']? = some (x.f d') := by
            have h4 := rp.slot d'
            rw [List.getD_eq_getElem?_getD, List.getElem?_eq_getElem (by rw [rp.len]; exact hlt)] at h4
            rw [List.getElem?_eq_getElem (by rw [rp.len]; exact hlt)]
            simpa using h4
          simp only [gnextU, kex, frOne] at h3 ⊢
          rw [gresU_eq hv hd' hks hs]
          exact h3
      · simp at hq
    · simp at hq
  · simp at hq

def fdec (M : Nat) (K : List Fm) (f : Nat → Value) : Option (List Fm × (Nat → Value)) :=
  match K with
  | .code (.cond v y z) :: K => (match fev f v with | .bool b => some ((bif b then .code y else .code z) :: K, f) | _ => none)
  | .ops all l :: K => bif gOK M (.ops all l :: K) then (match f (gD (.ops all l :: K)) with
    | .bool b => some (gnext (gJ (.ops all l :: K)) b (.ops all l :: K), sup f (gD (.ops all l :: K)) (.bool b))
    | .tuple _ => some (gnextU (gJ (.ops all l :: K)) (.ops all l :: K), f)
    | _ => none) else none
  | _ => none
theorem fdec_sound {K' : List Fm} {f' : Nat → Value} (hd : fdec M K f = some (K', f')) (k : Fin P X ro M K' .normal ⟨f', h⟩ Q) : Fin P X ro M K .normal ⟨f, h⟩ Q := by
  unfold fdec at hd
  split at hd
  · rename_i v y z K0
    split at hd
    · rename_i b hb
      simp only [Option.some.injEq, Prod.mk.injEq] at hd
      obtain ⟨rfl, rfl⟩ := hd
      exact Fin_cB b hb k
    · simp at hd
  · rename_i all l K0
    cases hg : gOK M (.ops all l :: K0) with
    | false => rw [hg] at hd; simp at hd
    | true =>
      rw [hg] at hd
      simp only [cond_true] at hd
      split at hd
      · rename_i b hb
        simp only [Option.some.injEq, Prod.mk.injEq] at hd
        obtain ⟨rfl, rfl⟩ := hd
        exact Fin_gB b hg hb k
      · rename_i u hb
        simp only [Option.some.injEq, Prod.mk.injEq] at hd
        obtain ⟨rfl, rfl⟩ := hd
        exact Fin_gU (x := ⟨f, h⟩) hg (by intro b; simp only [hb]; simp) k
      · simp at hd
  · simp at hd

/-- Run total operations and at most m decisions. -/
def frunA (P : Program) (M : Nat) : Nat → Nat → List Fm → (Nat → Value) → List Fm × (Nat → Value)
  | 0, _, K, f => (K, f)
  | n + 1, m, K, f => match fstep P M K ⟨f, []⟩ with
    | some (K', x') => frunA P M n m K' x'.f
    | none => match m with
      | 0 => (K, f)
      | m + 1 => match fdec M K f with
        | some (K', f') => frunA P M n m K' f'
        | none => (K, f)
theorem fstep_heap {h0 : AHeap} {K' : List Fm} {x' : FS} (hs : fstep P M K ⟨f, h0⟩ = some (K', x')) : fstep P M K ⟨f, h⟩ = some (K', ⟨x'.f, h⟩) := by
  unfold fstep at hs ⊢
  split at hs <;> (try (simp only [Option.some.injEq, Prod.mk.injEq] at hs ⊢; obtain ⟨rfl, rfl⟩ := hs; exact ⟨rfl, rfl⟩))
  · rename_i ops draw K0
    cases draw <;> simp at hs ⊢
    obtain ⟨rfl, rfl⟩ := hs; exact ⟨rfl, rfl⟩
  · split at hs
    · simp only [Option.some.injEq, Prod.mk.injEq] at hs ⊢; obtain ⟨rfl, rfl⟩ := hs; exact ⟨rfl, rfl⟩
    · simp at hs
  · rename_i all o r K0
    split at hs
    · simp at hs
    · cases hc : (totalOp f o.op && dstIn M o.dst) with
      | false => rw [hc] at hs; simp at hs
      | true =>
        rw [hc] at hs
        simp only [cond_true] at hs ⊢
        split at hs
        · rename_i v hv
          simp only [Option.some.injEq, Prod.mk.injEq] at hs ⊢; obtain ⟨rfl, rfl⟩ := hs; exact ⟨rfl, rfl⟩
        · simp at hs
  · simp at hs
theorem RunA (n m : Nat) (k : Fin P X ro M (frunA P M n m K f).1 .normal ⟨(frunA P M n m K f).2, h⟩ Q) : Fin P X ro M K .normal ⟨f, h⟩ Q := by
  induction n generalizing m K f with
  | zero => exact k
  | succ n ih =>
    simp only [frunA] at k
    split at k
    · rename_i K' x' hs
      exact fstep_sound (fstep_heap hs) (ih m k)
    · cases m with
      | zero => exact k
      | succ m =>
        simp only at k
        split at k
        · rename_i K' f' hd
          exact fdec_sound hd (ih m k)
        · exact k
/-- An operation that looks at its operands alone. -/
def apureAt (P : Program) (K : List Fm) (f : Nat → Value) : Option Value := match hop K with | some op => apure P (fev f) op | none => none
theorem PureV (v : Value) (hv : apureAt P K f = some v) (hn : onOK M K = true) (hc : (match hop K with | some (.call { callee := .value _, .. }) => false | _ => true) = true)
    (k : Fin P X ro M (onK M K) .normal ⟨fput f (onD M K) v, h⟩ Q) : Fin P X ro M K .normal ⟨f, h⟩ Q := by
  unfold apureAt at hv
  cases ho : hop K with
  | none => rw [ho] at hv; simp at hv
  | some op =>
    rw [ho] at hv hc
    simp only at hv
    refine Fin_head v h (head_of ho ?_) hn k
    unfold aop
    split
    · simp at hc
    · simp [apure] at hv
    · rw [hv]
/-- A function's one result, in a cell. -/
theorem fresults_cell {rs : List ResultVar} {a : Tmp} {ty : TypeId} {y : FS} {v : Value} (hr : rs = [.cell a ty]) (hv : aload P y.h ty (y.f a) = some v) : fresults P rs y = some v := by
  subst hr
  simp only [fresults, fresultsL, fresult, hv]
end Go.AM
