/-
  THE ABSTRACT EXECUTOR: more fuel, the same answer.
-/
import Derived.Test.YtknpjlcgjlnfbaaGreatDoorVc2
set_option linter.unusedSimpArgs false
set_option linter.unusedVariables false
namespace Go.AM
variable {P : Program} {X : Ext}

def CallLe (c c' : ACall) : Prop := ∀ g a h r, c g a h = some r → c' g a h = some r

theorem callValue_mono {c c' : ACall} (hc : CallLe c c') {f : Value} {args : List Value} {h : AHeap} {r : Value × AHeap} (hr : callValue c f args h = some r) : callValue c' f args h = some r := by
  unfold callValue at hr ⊢
  split at hr
  · exact hc _ _ _ _ hr
  · exact hc _ _ _ _ hr
  · simp at hr

theorem callInv_mono {c c' : ACall} (hc : CallLe c c') {f : Value} {nm : String} {args : List Value} {h : AHeap} {r : Value × AHeap} (hr : callInv P c f nm args h = some r) : callInv P c' f nm args h = some r := by
  unfold callInv at hr ⊢
  split at hr
  · split at hr
    · exact hc _ _ _ _ hr
    · simp at hr
  · simp at hr
theorem aop_mono {c c' : ACall} (hc : CallLe c c') {ρ : Operand → Value} {h : AHeap} {op : Op} {r : Value × AHeap} (hr : aop P c ρ h op = some r) : aop P c' ρ h op = some r := by
  unfold aop at hr ⊢
  split
  · exact callValue_mono hc hr
  · exact callInv_mono hc hr
  · rename_i hn hn2
    split at hr
    · exact (hn _ _ _ rfl).elim
    · exact (hn2 _ _ _ _ rfl).elim
    · exact hr

theorem aops_mono {c c' : ACall} (hc : CallLe c c') {ops : Array Oper} : ∀ {l : List Nat} {s r : St}, aops P c ops l s = some r → aops P c' ops l s = some r := by
  intro l
  induction l with
  | nil => intro s r h; exact h
  | cons i l ih =>
    intro s r h
    simp only [aops] at h ⊢
    split at h
    · simp at h
    · split at h
      · rename_i hw
        rw [if_pos hw]
        split at h
        · rename_i v h2 hv
          rw [aop_mono hc hv]
          exact ih h
        · simp at h
      · rename_i hw
        rw [if_neg hw]
        exact ih h

theorem adraw_mono {c c' : ACall} (hc : CallLe c c') {ops : Array Oper} : ∀ {l : List Nat} {s r : St} {hs : List (Nat × AHeap)} {rs : List (Nat × TypeId × Value × Value)}, adraw P c ops l s hs rs = some r → adraw P c' ops l s hs rs = some r := by
  intro l
  induction l with
  | nil => intro s r hs rs h; exact h
  | cons i l ih =>
    intro s r hs rs h
    simp only [adraw] at h ⊢
    split at h
    · simp at h
    · split at h
      · rename_i hw
        rw [if_pos hw]
        split at h
        · split at h
          · exact ih h
          · simp at h
        · split at h
          · split at h
            · split at h
              · rename_i hcond
                rw [if_pos hcond]; exact ih h
              · simp at h
            · simp at h
          · split at h
            · split at h
              · rename_i hcond
                rw [if_pos hcond]; exact ih h
              · simp at h
            · simp at h
        · split at h
          · rename_i v h2 hv
            split at h
            · rename_i hcond
              rw [aop_mono hc hv]
              simp only [hcond, if_true]
              exact ih h
            · simp at h
          · simp at h
      · rename_i hw
        rw [if_neg hw]
        exact ih h

theorem aregion_mono {c c' : ACall} (hc : CallLe c c') {ops : Array Oper} {d : Bool} {s r : St} (h : aregion P c ops d s = some r) : aregion P c' ops d s = some r := by
  unfold aregion at h ⊢
  cases d with
  | true =>
    simp only [if_true] at h ⊢
    split at h
    · rename_i hd
      rw [if_pos hd]; exact adraw_mono hc h
    · simp at h
  | false =>
    simp only [Bool.false_eq_true, if_false] at h ⊢
    exact aops_mono hc h

theorem aloop_mono2 {b b' : St → Option (AExit × St)} (hb : ∀ s r, b s = some r → b' s = some r) : ∀ {m m' : Nat} {s : St} {q : AExit × St}, aloop b m s = some q → m ≤ m' → aloop b' m' s = some q := by
  intro m
  induction m with
  | zero => intro m' s q h; simp [aloop] at h
  | succ m ih =>
    intro m' s q h hm
    obtain ⟨m', rfl⟩ : ∃ k, m' = k + 1 := ⟨m' - 1, by omega⟩
    simp only [aloop] at h ⊢
    split at h
    · rename_i s' hs
      rw [hb _ _ hs]; exact ih h (by omega)
    · rename_i r hn
      rw [hb _ _ h]
      obtain ⟨e, s1⟩ := q
      cases e with
      | normal => exact (hn _ h).elim
      | ret => rfl
      | exit j => rfl

theorem aex_mono {c c' : ACall} (hc : CallLe c c') {n n' : Nat} (hn : n ≤ n') {ro : Option Nat} : ∀ {code : Code} {s : St} {r : AExit × St}, aex P c n ro code s = some r → aex P c' n' ro code s = some r := by
  intro code
  induction code with
  | skip => intro s r h; exact h
  | region i ops d =>
    intro s r h
    simp only [aex] at h ⊢
    split at h
    · rename_i s' hs
      rw [aregion_mono hc hs]; exact h
    · simp at h
  | seq a b iha ihb =>
    intro s r h
    simp only [aex] at h ⊢
    cases ha : aex P c n ro a s with
    | none => rw [ha] at h; simp at h
    | some q =>
      rw [ha] at h
      rw [iha ha]
      obtain ⟨e, s1⟩ := q
      cases e with
      | normal => exact ihb h
      | ret => exact h
      | exit j => exact h
  | cond v a b iha ihb =>
    intro s r h
    simp only [aex] at h ⊢
    split at h
    · exact iha h
    · exact ihb h
    · simp at h
  | block id a ih =>
    intro s r h
    simp only [aex] at h ⊢
    cases ha : aex P c n ro a s with
    | none => rw [ha] at h; simp at h
    | some q => rw [ha] at h; rw [ih ha]; exact h
  | loop a ih =>
    intro s r h
    simp only [aex] at h ⊢
    exact aloop_mono2 (fun s r hs => ih hs) h hn
  | exit id => intro s r h; exact h
  | scope a ih => intro s r h; simp only [aex] at h ⊢; exact ih h
  | ret => intro s r h; exact h
  | label i => intro s r h; exact h
  | rangeFunc f ps as bd =>
    intro s r h
    simp only [aex] at h ⊢
    split at h
    · split at h
      · rename_i hr
        rw [if_pos hr]
        split at h
        · rename_i v h2 hv
          rw [hc _ _ _ _ hv]
          exact h
        · simp at h
      · simp at h
    · simp at h
  | _ => intro s r h; simp [aex] at h

theorem acall_succ : ∀ n, CallLe (acall P X n) (acall P X (n + 1)) := by
  intro n
  induction n with
  | zero => intro g a h r hr; simp [acall] at hr
  | succ n ih =>
    intro g a h r hr
    have hex : ∀ {ro : Option Nat} {code : Code} {s : St} {r : AExit × St}, aex P (acall P X n) n ro code s = some r → aex P (acall P X (n + 1)) (n + 1) ro code s = some r := fun h => aex_mono ih (Nat.le_succ n) h
    rw [acall] at hr ⊢
    cases g with
    | fn f =>
      simp only at hr ⊢
      split at hr
      · exact hr
      · split at hr
        · split at hr
          · rename_i c hb
            split at hr
            · rename_i s hs
              rw [hex hs]; exact hr
            · rename_i s hs
              rw [hex hs]; exact hr
            · simp at hr
          · simp at hr
        · simp at hr
    | yield l =>
      simp only at hr ⊢
      split at hr
      · split at hr
        · rename_i hl
          rw [if_pos hl]
          split at hr
          · rename_i s hs
            rw [hex hs]
            split at hr
            · rename_i hh
              split at hr
              · rename_i e s2 hs2
                simp only [hh, hex hs2]; exact hr
              · simp at hr
            · simp at hr
          · simp at hr
        · simp at hr
      · simp at hr
theorem acall_mono {n m : Nat} (h : n ≤ m) : CallLe (acall P X n) (acall P X m) := by
  induction m with
  | zero =>
    have : n = 0 := by omega
    subst this; exact fun _ _ _ _ h => h
  | succ m ih =>
    by_cases e : n = m + 1
    · subst e; exact fun _ _ _ _ h => h
    · exact fun g a hh r hr => acall_succ m g a hh r (ih (by omega) g a hh r hr)

/-- A call that the kernel has run. -/
theorem Ca_run {n : Nat} {g : Tg} {args : List Value} {h h' : AHeap} {v : Value} {C : Value → AHeap → Prop} (hr : acall P X n g args h = some (v, h')) (hC : C v h') : Ca P X g args h C :=
  ⟨n, v, h', hC, fun m hm => acall_mono hm _ _ _ _ hr⟩

theorem aopsL_mono {c c' : ACall} (hc : CallLe c c') {all : Array Oper} : ∀ {l : List Oper} {s r : St}, aopsL P c all l s = some r → aopsL P c' all l s = some r := by
  intro l
  induction l with
  | nil => intro s r h; exact h
  | cons o l ih =>
    intro s r h
    simp only [aopsL] at h ⊢
    split at h
    · rename_i hw
      rw [if_pos hw]
      split at h
      · rename_i v h2 hv
        rw [aop_mono hc hv]
        exact ih h
      · simp at h
    · rename_i hw
      rw [if_neg hw]
      exact ih h
theorem kex_up {c c' : ACall} (hc : CallLe c c') {n n' m m' : Nat} (hn : n ≤ n') (hm : m ≤ m') {ro : Option Nat} : ∀ {K : List Fm} {e : AExit} {s : St} {r : AExit × St}, kex P c n m ro K e s = some r → kex P c' n' m' ro K e s = some r := by
  have one : ∀ {fr : Fm} {s : St} {q : AExit × St}, frOne P c n m ro fr s = some q → frOne P c' n' m' ro fr s = some q := by
    intro fr s q h
    cases fr with
    | code cc => exact aex_mono hc hn h
    | ops a l =>
      simp only [frOne] at h ⊢
      split at h
      · rename_i s1 h1
        rw [aopsL_mono hc h1]; exact h
      · simp at h
    | blk i => exact h
    | lp cc => exact aloop_mono2 (fun s r hs => aex_mono hc hn hs) h hm
  intro K
  induction K with
  | nil => intro e s r h; exact h
  | cons fr K ih =>
    intro e s r h
    cases e with
    | normal =>
      simp only [kex] at h ⊢
      split at h
      · rename_i e1 s1 h1
        rw [one h1]
        exact ih h
      · simp at h
    | ret => exact ih h
    | exit i =>
      cases fr with
      | blk j =>
        simp only [kex] at h ⊢
        split at h
        · rename_i e; rw [if_pos e]; exact ih h
        · rename_i e; rw [if_neg e]; exact ih h
      | code c => exact ih h
      | ops a l => exact ih h
      | lp c => exact ih h

/-! ### The kernel runs the rest -/
def stOf (M : Nat) (x : FS) : St := ⟨(List.range M).map x.f, x.h⟩
def fsOf (s : St) : FS := ⟨fun j => s.t.getD j undef, s.h⟩
theorem Rep.eq {M : Nat} {s : St} {x : FS} (r : Rep M s x) : s = stOf M x := by
  obtain ⟨t, h⟩ := s
  have : h = x.h := r.heap
  subst this
  simp only [stOf, St.mk.injEq, and_true]
  apply List.ext_getElem?
  intro j
  by_cases hj : j < M
  · have h1 := r.slot j
    have hl := r.len
    simp only at hl h1
    rw [List.getElem?_eq_getElem (by omega)]
    rw [List.getD_eq_getElem?_getD, List.getElem?_eq_getElem (by omega)] at h1
    simp only [Option.getD_some] at h1
    simp [hj, h1]
  · have hl := r.len
    simp only at hl
    rw [List.getElem?_eq_none (by omega), List.getElem?_eq_none (by simp; omega)]
variable {ro : Option Nat} {M : Nat} {K : List Fm} {x : FS} {Q : AExit → FS → Prop}
theorem Fin_kex {n : Nat} {e' : AExit} {s' : St} (h : kex P (acall P X n) n n ro K .normal (stOf M x) = some (e', s')) (hl : s'.t.length = M) (hq : Q e' (fsOf s')) : Fin P X ro M K .normal x Q := by
  intro s r
  rw [r.eq]
  exact ⟨n, e', s', fsOf s', ⟨hl, fun j => rfl, rfl⟩, hq, fun n' m' hn hm => kex_up (acall_mono hn) hn hm h⟩

/-- The run's rest answers true: said by the kernel. -/
def saysTrue (P : Program) (M : Nat) (rs : List ResultVar) : Option (AExit × St) → Bool
  | some (e, s) => (match e with | .exit _ => false | _ => true) && Nat.beq s.t.length M && (match aresults P rs s.t s.h with | some (.bool b) => b | _ => false)
  | none => false
theorem Fin_true {n : Nat} {rs : List ResultVar} (h : saysTrue P M rs (kex P (acall P X n) n n ro K .normal (stOf M x)) = true) :
    Fin P X ro M K .normal x (fun e y => (e = .normal ∨ e = .ret) ∧ ∃ v, fresults P rs y = some v ∧ v = .bool true) := by
  unfold saysTrue at h
  split at h
  · rename_i e s hs
    simp only [Bool.and_eq_true] at h
    obtain ⟨⟨h1, h2⟩, h3⟩ := h
    have hl : s.t.length = M := Nat.eq_of_beq_eq_true h2
    refine Fin_kex hs hl ⟨?_, ?_⟩
    · cases e with
      | normal => exact Or.inl rfl
      | ret => exact Or.inr rfl
      | exit i => simp at h1
    · have hr : Rep M s (fsOf s) := ⟨hl, fun j => rfl, rfl⟩
      split at h3
      · rename_i b hb
        rw [← fresults_eq hr, hb]
        exact ⟨_, rfl, by rw [h3]⟩
      · simp at h3
  · simp at h
def callTrue : Option (Value × AHeap) → Bool
  | some (.bool b, _) => b
  | _ => false
theorem Ca_true {n : Nat} {g : Tg} {args : List Value} {h : AHeap} (hr : callTrue (acall P X n g args h) = true) : Ca P X g args h (fun v _ => v = .bool true) := by
  unfold callTrue at hr
  split at hr
  · rename_i b h' hb
    exact Ca_run hb (by rw [hr])
  · simp at hr
end Go.AM
