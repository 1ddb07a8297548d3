/-
  THE ABSTRACT EXECUTOR, SYMBOLICALLY: code as frames, slots as a function; rules by which a run is followed with few decisions.
-/
import Derived.Test.YtknpjlcgjlnfbaaGreatDoorAm16
set_option linter.unusedSimpArgs false
set_option linter.unusedVariables false
namespace Go.AM

structure FS where
  f : Nat → Value
  h : AHeap

def fev (f : Nat → Value) : Operand → Value
  | .tmp i => f i
  | .const v => v
  | .global g => .pointer (some ⟨g, 0, none⟩)
  | .func g => .func (.func g) #[] #[]
def sup (f : Nat → Value) (d : Nat) (v : Value) : Nat → Value := fun j => bif Nat.beq j d then v else f j
def fput (f : Nat → Value) (dst : Option Tmp) (v : Value) : Nat → Value :=
  match dst with
  | some d => sup f d v
  | none => f

structure Rep (M : Nat) (s : St) (x : FS) : Prop where
  len : s.t.length = M
  slot : ∀ j, s.t.getD j undef = x.f j
  heap : s.h = x.h

theorem sup_eq (f : Nat → Value) (d : Nat) (v : Value) (j : Nat) : sup f d v j = if j = d then v else f j := by
  unfold sup
  by_cases h : j = d
  · subst h; simp
  · have : Nat.beq j d = false := by
      rw [Bool.eq_false_iff]; intro e; exact h (Nat.eq_of_beq_eq_true e)
    simp [this, h]
theorem sup_same {f : Nat → Value} {d : Nat} {v : Value} (h : f d = v) : sup f d v = f := by
  funext j; rw [sup_eq]; split
  · rename_i e; rw [e, h]
  · rfl

theorem Rep.ev {M : Nat} {s : St} {x : FS} (r : Rep M s x) (o : Operand) : aeval s.t o = fev x.f o := by
  cases o <;> simp only [aeval, fev]
  exact r.slot _
theorem Rep.evf {M : Nat} {s : St} {x : FS} (r : Rep M s x) : aeval s.t = fev x.f := funext r.ev
def dstIn (M : Nat) : Option Tmp → Bool
  | some d => Nat.blt d M
  | none => true
theorem Rep.put {M : Nat} {s : St} {x : FS} (r : Rep M s x) {dst : Option Tmp} (hd : dstIn M dst = true) (v : Value) (h : AHeap) : Rep M ⟨aput s.t dst v, h⟩ ⟨fput x.f dst v, h⟩ := by
  cases dst with
  | none => exact ⟨r.len, r.slot, rfl⟩
  | some d =>
    have hlt : d < M := Nat.le_of_ble_eq_true (by simpa only [dstIn, Nat.blt] using hd)
    refine ⟨by simp [aput, r.len], fun j => ?_, rfl⟩
    simp only [aput, fput, sup_eq]
    rw [List.getD_eq_getElem?_getD, List.getElem?_set]
    by_cases e : j = d
    · subst e; simp [r.len, hlt]
    · rw [if_neg (fun h => e h.symm), if_neg e, ← List.getD_eq_getElem?_getD]; exact r.slot j

/-! ### Frames -/
inductive Fm where
  | code (c : Code)
  | ops (all : Array Oper) (l : List Oper)
  | blk (id : Nat)
  | lp (c : Code)

def aopsL (P : Program) (call : ACall) (all : Array Oper) : List Oper → St → Option St
  | [], s => some s
  | o :: r, s =>
    if Region.wanted o (ayielded all s.t) then
      match aop P call (aeval s.t) s.h o.op with
      | some (v, h) => aopsL P call all r ⟨aput s.t o.dst v, h⟩
      | none => none
    else aopsL P call all r ⟨aput s.t o.dst undef, s.h⟩

theorem aops_eq {P : Program} {call : ACall} {all : Array Oper} : ∀ (k i : Nat) (s : St), i + k = all.size → aops P call all (List.range' i k) s = aopsL P call all (all.toList.drop i) s := by
  intro k
  induction k with
  | zero =>
    intro i s h
    rw [List.drop_of_length_le (by simp; omega)]
    rfl
  | succ k ih =>
    intro i s h
    have hi : i < all.toList.length := by simp; omega
    rw [List.range'_succ, List.drop_eq_getElem_cons hi]
    have : all[i]? = some all.toList[i] := by simp at hi ⊢
    simp only [aops, aopsL, this]
    split
    · cases aop P call (aeval s.t) s.h all.toList[i].op with
      | none => rfl
      | some q => exact ih (i + 1) _ (by omega)
    · exact ih (i + 1) _ (by omega)

def frOne (P : Program) (call : ACall) (n m : Nat) (ro : Option Nat) : Fm → St → Option (AExit × St)
  | .code c, s => aex P call n ro c s
  | .ops all l, s => match aopsL P call all l s with
    | some s1 => some (.normal, s1)
    | none => none
  | .blk _, s => some (.normal, s)
  | .lp c, s => aloop (aex P call n ro c) m s

def kex (P : Program) (call : ACall) (n m : Nat) (ro : Option Nat) : List Fm → AExit → St → Option (AExit × St)
  | [], e, s => some (e, s)
  | fr :: K, e, s =>
    match e with
    | .normal => (match frOne P call n m ro fr s with
      | some (e1, s1) => kex P call n m ro K e1 s1
      | none => none)
    | .exit i => (match fr with
      | .blk j => if i = j then kex P call n m ro K .normal s else kex P call n m ro K (.exit i) s
      | _ => kex P call n m ro K (.exit i) s)
    | .ret => kex P call n m ro K .ret s

/-- From some fuel on the frames run to an end of which Q tells. -/
def Fin (P : Program) (X : Ext) (ro : Option Nat) (M : Nat) (K : List Fm) (e : AExit) (x : FS) (Q : AExit → FS → Prop) : Prop :=
  ∀ s, Rep M s x → ∃ N e' s' x', Rep M s' x' ∧ Q e' x' ∧ ∀ n m, N ≤ n → N ≤ m → kex P (acall P X n) n m ro K e s = some (e', s')

/-- From some fuel on a call answers, and Q tells what. -/
def Ca (P : Program) (X : Ext) (g : Tg) (args : List Value) (h : AHeap) (Q : Value → AHeap → Prop) : Prop :=
  ∃ N v h', Q v h' ∧ ∀ n, N ≤ n → acall P X n g args h = some (v, h')

variable {P : Program} {X : Ext} {ro : Option Nat} {M : Nat} {K : List Fm} {e : AExit} {x : FS} {Q : AExit → FS → Prop}

theorem Fin_nil (h : Q e x) : Fin P X ro M [] e x Q := fun s r => ⟨0, e, s, x, r, h, fun _ _ _ _ => rfl⟩

/-- A step that changes nothing but the frames. -/
theorem Fin_eq {K' : List Fm} {e' : AExit} (h : ∃ N, ∀ n m s, N ≤ n → N ≤ m → kex P (acall P X n) n m ro K e s = kex P (acall P X n) n m ro K' e' s) (k : Fin P X ro M K' e' x Q) : Fin P X ro M K e x Q := by
  intro s r
  obtain ⟨N, e1, s1, x1, a, b, c⟩ := k s r
  obtain ⟨N2, d⟩ := h
  exact ⟨max N N2, e1, s1, x1, a, b, fun n m hn hm => (d n m s (by omega) (by omega)).trans (c n m (by omega) (by omega))⟩

theorem Fin_skip (k : Fin P X ro M K .normal x Q) : Fin P X ro M (.code .skip :: K) .normal x Q := Fin_eq ⟨0, fun n m s _ _ => rfl⟩ k
theorem Fin_label {i : Nat} (k : Fin P X ro M K .normal x Q) : Fin P X ro M (.code (.label i) :: K) .normal x Q := Fin_eq ⟨0, fun n m s _ _ => rfl⟩ k
theorem Fin_blk {i : Nat} (k : Fin P X ro M K .normal x Q) : Fin P X ro M (.blk i :: K) .normal x Q := Fin_eq ⟨0, fun n m s _ _ => rfl⟩ k
theorem Fin_scope {c : Code} (k : Fin P X ro M (.code c :: K) .normal x Q) : Fin P X ro M (.code (.scope c) :: K) .normal x Q := Fin_eq ⟨0, fun n m s _ _ => rfl⟩ k
theorem Fin_ops0 {all : Array Oper} (k : Fin P X ro M K .normal x Q) : Fin P X ro M (.ops all [] :: K) .normal x Q := Fin_eq ⟨0, fun n m s _ _ => rfl⟩ k
theorem Fin_seq {a b : Code} (k : Fin P X ro M (.code a :: .code b :: K) .normal x Q) : Fin P X ro M (.code (.seq a b) :: K) .normal x Q := by
  refine Fin_eq ⟨0, fun n m s _ _ => ?_⟩ k
  simp only [kex, frOne, aex]
  cases aex P (acall P X n) n ro a s with
  | none => rfl
  | some r => obtain ⟨e, s1⟩ := r; cases e <;> rfl
theorem Fin_block {i : Nat} {c : Code} (k : Fin P X ro M (.code c :: .blk i :: K) .normal x Q) : Fin P X ro M (.code (.block i c) :: K) .normal x Q := by
  refine Fin_eq ⟨0, fun n m s _ _ => ?_⟩ k
  simp only [kex, frOne, aex]
  cases aex P (acall P X n) n ro c s with
  | none => rfl
  | some r =>
    obtain ⟨e, s1⟩ := r
    cases e with
    | normal => rfl
    | ret => rfl
    | exit j =>
      by_cases h : j = i
      · simp [kex, h]
      · simp [kex, h]
theorem Fin_region {i : Nat} {ops : Array Oper} (k : Fin P X ro M (.ops ops ops.toList :: K) .normal x Q) : Fin P X ro M (.code (.region i ops false) :: K) .normal x Q := by
  refine Fin_eq ⟨0, fun n m s _ _ => ?_⟩ k
  simp only [kex, frOne, aex, aregion]
  have := aops_eq (P := P) (call := acall P X n) (all := ops) ops.size 0 s (by simp)
  rw [List.range_eq_range']
  simp only [Bool.false_eq_true, if_false, this, List.drop_zero]
  cases aopsL P (acall P X n) ops ops.toList s <;> rfl

/-- Where an exit leads. -/
def unw (i : Nat) : List Fm → Option (List Fm)
  | [] => none
  | .blk j :: K => bif Nat.beq i j then some K else unw i K
  | _ :: K => unw i K
theorem unw_kex {i : Nat} {n m : Nat} {call : ACall} : ∀ {K K' : List Fm}, unw i K = some K' → ∀ s, kex P call n m ro K (.exit i) s = kex P call n m ro K' .normal s := by
  intro K
  induction K with
  | nil => intro K' h; simp [unw] at h
  | cons fr K ih =>
    intro K' h s
    cases fr with
    | blk j =>
      simp only [unw] at h
      by_cases e : i = j
      · subst e
        simp at h; subst h
        simp [kex]
      · have : Nat.beq i j = false := by
          rw [Bool.eq_false_iff]; intro e'; exact e (Nat.eq_of_beq_eq_true e')
        rw [this] at h
        simp only [kex, if_neg e]
        exact ih h s
    | code c => exact ih h s
    | ops a l => exact ih h s
    | lp c => exact ih h s
theorem Fin_exit {i : Nat} {K' : List Fm} (h : unw i K = some K') (k : Fin P X ro M K' .normal x Q) : Fin P X ro M (.code (.exit i) :: K) .normal x Q := by
  refine Fin_eq ⟨0, fun n m s _ _ => ?_⟩ k
  simp only [kex, frOne, aex]
  exact unw_kex h s
theorem ret_kex {n m : Nat} {call : ACall} : ∀ (K : List Fm) s, kex P call n m ro K .ret s = some (.ret, s) := by
  intro K
  induction K with
  | nil => intro s; rfl
  | cons fr K ih => intro s; simp only [kex]; exact ih s
theorem Fin_ret (h : Q .ret x) : Fin P X ro M (.code .ret :: K) .normal x Q := by
  refine Fin_eq (K' := []) (e' := .ret) ⟨0, fun n m s _ _ => ?_⟩ (Fin_nil h)
  simp only [kex, frOne, aex]
  exact ret_kex K s

theorem aloop_mono {b : St → Option (AExit × St)} : ∀ {m m' : Nat} {s : St} {q : AExit × St}, aloop b m s = some q → m ≤ m' → aloop b m' s = some q := by
  intro m
  induction m with
  | zero => intro m' s q h; simp [aloop] at h
  | succ m ih =>
    intro m' s q h hm
    obtain ⟨m', rfl⟩ : ∃ k, m' = k + 1 := ⟨m' - 1, by omega⟩
    simp only [aloop] at h ⊢
    split at h
    · exact ih h (by omega)
    · exact h
theorem frOne_mono {call : ACall} {n m m' : Nat} {fr : Fm} {s : St} {q : AExit × St} (hm : m ≤ m') (h : frOne P call n m ro fr s = some q) : frOne P call n m' ro fr s = some q := by
  cases fr with
  | lp c => exact aloop_mono h hm
  | code c => exact h
  | ops a l => exact h
  | blk i => exact h
theorem kex_mono {call : ACall} {n m m' : Nat} (hm : m ≤ m') : ∀ {K : List Fm} {e : AExit} {s : St} {q : AExit × St}, kex P call n m ro K e s = some q → kex P call n m' ro K e s = some q := by
  intro K
  induction K with
  | nil => intro e s q h; exact h
  | cons fr K ih =>
    intro e s q h
    cases e with
    | normal =>
      simp only [kex] at h ⊢
      split at h
      · rename_i e1 s1 h1
        rw [frOne_mono hm h1]
        exact ih h
      · simp at h
    | ret => exact ih h
    | exit i =>
      cases fr with
      | blk j =>
        simp only [kex] at h ⊢
        split at h
        · rename_i e; rw [if_pos e]; exact ih h
        · rename_i e; rw [if_neg e]; exact ih h
      | code c => exact ih h
      | ops a l => exact ih h
      | lp c => exact ih h

theorem Fin_lp {c : Code} (k : Fin P X ro M (.code c :: .lp c :: K) .normal x Q) : Fin P X ro M (.lp c :: K) .normal x Q := by
  intro s r
  obtain ⟨N, e1, s1, x1, a, b, d⟩ := k s r
  refine ⟨N + 1, e1, s1, x1, a, b, fun n m hn hm => ?_⟩
  obtain ⟨m, rfl⟩ : ∃ k, m = k + 1 := ⟨m - 1, by omega⟩
  have := d n m (by omega) (by omega)
  simp only [kex, frOne] at this ⊢
  simp only [aloop]
  cases hx : aex P (acall P X n) n ro c s with
  | none => rw [hx] at this; simp at this
  | some q =>
    obtain ⟨e2, s2⟩ := q
    rw [hx] at this
    cases e2 with
    | normal =>
      simp only at this ⊢
      split at this
      · rename_i e3 s3 h3
        exact kex_mono (Nat.le_succ m) this
      · simp at this
    | ret => exact kex_mono (Nat.le_succ m) this
    | exit j => exact kex_mono (Nat.le_succ m) this
theorem Fin_loop {c : Code} (k : Fin P X ro M (.lp c :: K) .normal x Q) : Fin P X ro M (.code (.loop c) :: K) .normal x Q := by
  intro s r
  obtain ⟨N, e1, s1, x1, a, b, d⟩ := k s r
  refine ⟨N, e1, s1, x1, a, b, fun n m hn hm => ?_⟩
  have h1 := d n N (by omega) (by omega)
  simp only [kex, frOne, aex] at h1 ⊢
  split at h1
  · rename_i e2 s2 h2
    rw [aloop_mono h2 hn]
    exact kex_mono hm h1
  · simp at h1
end Go.AM
