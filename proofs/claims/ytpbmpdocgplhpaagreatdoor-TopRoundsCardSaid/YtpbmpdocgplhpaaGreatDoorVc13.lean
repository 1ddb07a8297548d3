/-
  THE ABSTRACT EXECUTOR: rows that are but read stay as they are.
-/
import Derived.Test.YtpbmpdocgplhpaaGreatDoorVc12
set_option linter.unusedSimpArgs false
set_option linter.unusedVariables false
namespace Go.AM

def Kp (h h' : AHeap) : Prop := ∀ (b : Nat) (cs : List Value), h[b]? = some (.row cs false) → h'[b]? = some (.row cs false)
theorem Kp.refl (h : AHeap) : Kp h h := fun _ _ x => x
theorem Kp.trans {h h1 h2 : AHeap} (a : Kp h h1) (b : Kp h1 h2) : Kp h h2 := fun i cs x => b i cs (a i cs x)
theorem Kp.app (h g : AHeap) : Kp h (h ++ g) := fun b cs x => by
  rw [List.getElem?_append_left]
  · exact x
  · by_cases hh : b < h.length
    · exact hh
    · rw [List.getElem?_eq_none (by omega)] at x; simp at x
theorem Kp.set {h : AHeap} {b : Nat} {o o' : AObj} (hb : h[b]? = some o) (ho : ∀ cs, o ≠ .row cs false) : Kp h (h.set b o') := fun i cs x => by
  by_cases e : b = i
  · subst e; rw [hb] at x; simp only [Option.some.injEq] at x; exact absurd x (ho cs)
  · rw [List.getElem?_set_ne e]; exact x
theorem storeN_keep {h h' : AHeap} {b o : Nat} {vs : List Value} (hs : storeN h b o vs = some h') : Kp h h' := by
  unfold storeN at hs
  split at hs
  · rename_i cs hb
    split at hs
    · simp only [Option.some.injEq] at hs; subst hs; exact Kp.set hb (fun cs => by simp)
    · simp at hs
  · simp at hs
theorem astore_keep {P : Program} {h h' : AHeap} {t : TypeId} {a v : Value} (hs : astore P h t a v = some h') : Kp h h' := by
  unfold astore at hs
  split at hs
  · split at hs
    · exact storeN_keep hs
    · simp at hs
  · simp at hs
theorem abuildSlice_keep {P : Program} {h h' : AHeap} {t : TypeId} {n : Nat} {ps : List (Nat × Value)} {v : Value} (hs : abuildSlice P h t n ps = some (v, h')) : Kp h h' := by
  unfold abuildSlice at hs
  repeat' (split at hs)
  all_goals first
    | (simp at hs; done)
    | (simp only [Option.some.injEq, Prod.mk.injEq] at hs; obtain ⟨_, rfl⟩ := hs; exact Kp.app _ _)
theorem amakeSlice_keep {P : Program} {h h' : AHeap} {t : TypeId} {l c : Value} {v : Value} (hs : amakeSlice P h t l c = some (v, h')) : Kp h h' := by
  unfold amakeSlice at hs
  repeat' (split at hs)
  all_goals first
    | (simp at hs; done)
    | (simp only [Option.some.injEq, Prod.mk.injEq] at hs; obtain ⟨_, rfl⟩ := hs; exact Kp.app _ _)
theorem anext_keep {h h' : AHeap} {it v : Value} (hs : anext h it = some (v, h')) : Kp h h' := by
  unfold anext at hs
  split at hs
  · split at hs
    · rename_i r s pos hr
      split at hs
      · simp only [Option.some.injEq, Prod.mk.injEq] at hs; obtain ⟨_, rfl⟩ := hs; exact Kp.set hr (fun cs => by simp)
      · simp only [Option.some.injEq, Prod.mk.injEq] at hs; obtain ⟨_, rfl⟩ := hs; exact Kp.refl _
    · simp at hs
  · simp at hs
theorem amapUpd_keep {P : Program} {h h' : AHeap} {t : TypeId} {m k x : Value} (hs : amapUpd P h t m k x = some h') : Kp h h' := by
  unfold amapUpd at hs
  split at hs
  · split at hs
    · rename_i es hr
      split at hs
      · simp only [Option.some.injEq] at hs; subst hs; exact Kp.set hr (fun cs => by simp)
      · simp at hs
    · simp at hs
  · simp at hs
theorem amapUpdA_keep {P : Program} {h h' : AHeap} {t : TypeId} {m k x : Value} (hs : amapUpdA P h t m k x = some h') : Kp h h' := by
  unfold amapUpdA at hs
  split at hs
  · split at hs
    · split at hs
      · rename_i es hr
        split at hs
        · simp only [Option.some.injEq] at hs; subst hs; exact Kp.set hr (fun cs => by simp)
        · simp at hs
      · simp at hs
    · simp at hs
  · simp at hs
theorem adelete_keep {P : Program} {h h' : AHeap} {t : TypeId} {m k : Value} (hs : adelete P h t m k = some h') : Kp h h' := by
  unfold adelete at hs
  split at hs
  · split at hs
    · rename_i es hr
      split at hs
      · simp only [Option.some.injEq] at hs; subst hs; exact Kp.set hr (fun cs => by simp)
      · simp at hs
    · simp at hs
  · simp at hs
theorem acopy_keep {P : Program} {h h' : AHeap} {t : TypeId} {d s v : Value} (hs : acopy P h t d s = some (v, h')) : Kp h h' := by
  unfold acopy at hs
  split at hs
  · split at hs
    · split at hs
      · split at hs
        · split at hs
          · rename_i h2 hst
            simp only [Option.some.injEq, Prod.mk.injEq] at hs; obtain ⟨_, rfl⟩ := hs; exact storeN_keep hst
          · simp at hs
        · simp at hs
      · simp at hs
    · simp at hs
  · simp at hs
theorem aclear_keep {P : Program} {h h' : AHeap} {t : TypeId} {x : Value} (hs : aclear P h t x = some h') : Kp h h' := by
  unfold aclear at hs
  split at hs
  · simp only [Option.some.injEq] at hs; subst hs; exact Kp.refl _
  · split at hs
    · split at hs
      · simp only [Option.some.injEq] at hs; subst hs; exact Kp.refl _
      · split at hs
        · exact storeN_keep hs
        · simp at hs
    · simp at hs
  · simp only [Option.some.injEq] at hs; subst hs; exact Kp.refl _
  · split at hs
    · rename_i es hr
      simp only [Option.some.injEq] at hs; subst hs; exact Kp.set hr (fun cs => by simp)
    · simp at hs
  · simp at hs
theorem aappend_keep {P : Program} {h h' : AHeap} {sT : TypeId} {s x v : Value} (hs : aappend P h sT s x = some (v, h')) : Kp h h' := by
  unfold aappend at hs
  split at hs
  · split at hs
    · split at hs
      · simp only [Option.some.injEq, Prod.mk.injEq] at hs; obtain ⟨_, rfl⟩ := hs; exact Kp.refl _
      · split at hs
        · split at hs
          · simp only [Option.some.injEq, Prod.mk.injEq] at hs; obtain ⟨_, rfl⟩ := hs; exact Kp.app _ _
          · split at hs
            · split at hs
              · rename_i old cs own hold hr
                split at hs
                · simp only [Option.some.injEq, Prod.mk.injEq] at hs; obtain ⟨_, rfl⟩ := hs; exact Kp.app _ _
                · split at hs
                  · rename_i hown
                    simp only [Bool.and_eq_true] at hown
                    simp only [Option.some.injEq, Prod.mk.injEq] at hs; obtain ⟨_, rfl⟩ := hs
                    refine Kp.trans (Kp.set hr (fun cs => ?_)) (Kp.app _ _)
                    rw [hown.1]; simp
                  · simp at hs
              · simp at hs
            · simp at hs
          · simp at hs
        · simp at hs
    · simp at hs
  · simp at hs
theorem aeff_keep {P : Program} {ρ : Operand → Value} {h h' : AHeap} {op : Op} {v : Value} (hs : aeff P ρ h op = some (v, h')) : Kp h h' := by
  unfold aeff at hs
  split at hs
  · split at hs
    · split at hs
      · simp only [anew, Option.some.injEq, Prod.mk.injEq] at hs; obtain ⟨_, rfl⟩ := hs; exact Kp.app _ _
      · simp at hs
    · simp at hs
  · split at hs
    · simp only [anew, Option.some.injEq, Prod.mk.injEq] at hs; obtain ⟨_, rfl⟩ := hs; exact Kp.app _ _
    · simp at hs
  · exact abuildSlice_keep hs
  · split at hs
    · rename_i h2 hst
      simp only [Option.some.injEq, Prod.mk.injEq] at hs; obtain ⟨_, rfl⟩ := hs; exact astore_keep hst
    · simp at hs
  · exact amakeSlice_keep hs
  · split at hs
    · simp only [Option.some.injEq, Prod.mk.injEq] at hs; obtain ⟨_, rfl⟩ := hs; exact Kp.app _ _
    · simp at hs
  · exact anext_keep hs
  · split at hs
    · split at hs
      · split at hs
        · simp only [Option.some.injEq, Prod.mk.injEq] at hs; obtain ⟨_, rfl⟩ := hs; exact Kp.app _ _
        · simp at hs
      · simp at hs
    · simp at hs
  · split at hs
    · split at hs
      · simp at hs
      · exact aappend_keep hs
      · simp at hs
    · simp at hs
  · split at hs
    · split at hs
      · rename_i h2 hst
        simp only [Option.some.injEq, Prod.mk.injEq] at hs; obtain ⟨_, rfl⟩ := hs; exact aclear_keep hst
      · simp at hs
    · simp at hs
  · simp only [Option.some.injEq, Prod.mk.injEq] at hs; obtain ⟨_, rfl⟩ := hs; exact Kp.app _ _
  · split at hs
    · rename_i h2 hst
      simp only [Option.some.injEq, Prod.mk.injEq] at hs; obtain ⟨_, rfl⟩ := hs; exact amapUpd_keep hst
    · split at hs
      · rename_i h2 hst
        simp only [Option.some.injEq, Prod.mk.injEq] at hs; obtain ⟨_, rfl⟩ := hs; exact amapUpdA_keep hst
      · simp at hs
  · split at hs
    · rename_i h2 hst
      simp only [Option.some.injEq, Prod.mk.injEq] at hs; obtain ⟨_, rfl⟩ := hs; exact amapUpd_keep hst
    · split at hs
      · rename_i h2 hst
        simp only [Option.some.injEq, Prod.mk.injEq] at hs; obtain ⟨_, rfl⟩ := hs; exact amapUpdA_keep hst
      · simp at hs
  · split at hs
    · split at hs
      · rename_i h2 hst
        simp only [Option.some.injEq, Prod.mk.injEq] at hs; obtain ⟨_, rfl⟩ := hs; exact adelete_keep hst
      · simp at hs
    · simp at hs
  · split at hs
    · exact acopy_keep hs
    · simp at hs
  · simp at hs

def CallKp (call : ACall) : Prop := ∀ tg args h v h', call tg args h = some (v, h') → Kp h h'
theorem aop_keep {P : Program} {call : ACall} (hc : CallKp call) {ρ : Operand → Value} {h h' : AHeap} {op : Op} {v : Value} (hs : aop P call ρ h op = some (v, h')) : Kp h h' := by
  unfold aop at hs
  split at hs
  · unfold callValue at hs
    split at hs
    · exact hc _ _ _ _ _ hs
    · exact hc _ _ _ _ _ hs
    · simp at hs
  · unfold callInv at hs
    split at hs
    · split at hs
      · exact hc _ _ _ _ _ hs
      · simp at hs
    · simp at hs
  · split at hs
    · simp only [Option.some.injEq, Prod.mk.injEq] at hs; obtain ⟨_, rfl⟩ := hs; exact Kp.refl _
    · split at hs
      · simp only [Option.some.injEq, Prod.mk.injEq] at hs; obtain ⟨_, rfl⟩ := hs; exact Kp.refl _
      · exact aeff_keep hs
theorem aops_keep {P : Program} {call : ACall} (hc : CallKp call) {ops : Array Oper} : ∀ (l : List Nat) (s s' : St), aops P call ops l s = some s' → Kp s.h s'.h := by
  intro l
  induction l with
  | nil => intro s s' hs; simp only [aops, Option.some.injEq] at hs; subst hs; exact Kp.refl _
  | cons i l ih =>
    intro s s' hs
    simp only [aops] at hs
    split at hs
    · simp at hs
    · split at hs
      · split at hs
        · rename_i v h hv
          exact (aop_keep hc hv).trans (ih _ _ hs)
        · simp at hs
      · have q := ih _ _ hs
        exact q
theorem adraw_keep {P : Program} {call : ACall} (hc : CallKp call) {ops : Array Oper} : ∀ (l : List Nat) (s s' : St) (hs : List (Nat × AHeap)) (rs : List (Nat × TypeId × Value × Value)), adraw P call ops l s hs rs = some s' → Kp s.h s'.h := by
  intro l
  induction l with
  | nil => intro s s' hs rs h; simp only [adraw, Option.some.injEq] at h; subst h; exact Kp.refl _
  | cons i l ih =>
    intro s s' hs rs h
    simp only [adraw] at h
    split at h
    · simp at h
    · split at h
      · split at h
        · split at h
          · have q := ih _ _ _ _ h
            exact q
          · simp at h
        · split at h
          · split at h
            · split at h
              · have q := ih _ _ _ _ h
                exact q
              · simp at h
            · simp at h
          · split at h
            · split at h
              · have q := ih _ _ _ _ h
                exact q
              · simp at h
            · simp at h
        · split at h
          · rename_i v h2 hv
            split at h
            · exact (aop_keep hc hv).trans (ih _ _ _ _ h)
            · simp at h
          · simp at h
      · have q := ih _ _ _ _ h
        exact q
theorem aregion_keep {P : Program} {call : ACall} (hc : CallKp call) {ops : Array Oper} {d : Bool} {s s' : St} (h : aregion P call ops d s = some s') : Kp s.h s'.h := by
  unfold aregion at h
  split at h
  · split at h
    · exact adraw_keep hc _ _ _ _ _ h
    · simp at h
  · exact aops_keep hc _ _ _ h
theorem aloop_keep {body : St → Option (AExit × St)} (hb : ∀ s e s', body s = some (e, s') → Kp s.h s'.h) : ∀ (n : Nat) (s : St) (e : AExit) (s' : St), aloop body n s = some (e, s') → Kp s.h s'.h := by
  intro n
  induction n with
  | zero => intro s e s' h; simp [aloop] at h
  | succ n ih =>
    intro s e s' h
    simp only [aloop] at h
    split at h
    · rename_i s1 h1
      exact (hb _ _ _ h1).trans (ih _ _ _ h)
    · exact hb _ _ _ h
theorem aex_keep {P : Program} {call : ACall} (hc : CallKp call) (n : Nat) (ro : Option Nat) : ∀ (c : Code) (s : St) (e : AExit) (s' : St), aex P call n ro c s = some (e, s') → Kp s.h s'.h := by
  intro c
  induction c with
  | seq a b iha ihb =>
    intro s e s' h
    simp only [aex] at h
    split at h
    · rename_i s1 h1
      exact (iha _ _ _ h1).trans (ihb _ _ _ h)
    · exact iha _ _ _ h
  | region i ops d =>
    intro s e s' h
    simp only [aex] at h
    split at h
    · rename_i s1 h1
      simp only [Option.some.injEq, Prod.mk.injEq] at h
      obtain ⟨_, rfl⟩ := h
      exact aregion_keep hc h1
    · simp at h
  | cond c x y ihx ihy =>
    intro s e s' h
    simp only [aex] at h
    split at h
    · exact ihx _ _ _ h
    · exact ihy _ _ _ h
    · simp at h
  | block id b ih =>
    intro s e s' h
    simp only [aex] at h
    split at h
    · rename_i j s1 h1
      split at h
      · simp only [Option.some.injEq, Prod.mk.injEq] at h
        obtain ⟨_, rfl⟩ := h
        exact ih _ _ _ h1
      · simp only [Option.some.injEq, Prod.mk.injEq] at h
        obtain ⟨_, rfl⟩ := h
        exact ih _ _ _ h1
    · exact ih _ _ _ h
  | loop b ih =>
    intro s e s' h
    simp only [aex] at h
    exact aloop_keep (fun s e s' h => ih s e s' h) _ _ _ _ h
  | scope b ih =>
    intro s e s' h
    simp only [aex] at h
    exact ih _ _ _ h
  | rangeFunc f ps as bd iha ihb =>
    intro s e s' h
    simp only [aex] at h
    split at h
    · split at h
      · split at h
        · rename_i v h2 hcall
          have k1 := hc _ _ _ _ _ hcall
          split at h
          · rename_i st pd ts ps' as' bd' hl
            split at h
            · simp at h
            · split at h
              · simp only [Option.some.injEq, Prod.mk.injEq] at h
                obtain ⟨_, rfl⟩ := h
                exact ((Kp.app _ _).trans k1).trans (Kp.set hl (fun cs => by simp))
              · simp at h
          · simp at h
        · simp at h
      · simp at h
    · simp at h
  | skip => intro s e s' h; simp only [aex, Option.some.injEq, Prod.mk.injEq] at h; obtain ⟨_, rfl⟩ := h; exact Kp.refl _
  | label i => intro s e s' h; simp only [aex, Option.some.injEq, Prod.mk.injEq] at h; obtain ⟨_, rfl⟩ := h; exact Kp.refl _
  | exit i => intro s e s' h; simp only [aex, Option.some.injEq, Prod.mk.injEq] at h; obtain ⟨_, rfl⟩ := h; exact Kp.refl _
  | ret => intro s e s' h; simp only [aex, Option.some.injEq, Prod.mk.injEq] at h; obtain ⟨_, rfl⟩ := h; exact Kp.refl _
  | _ => intros; simp_all [aex]

def ExtKp (X : Ext) : Prop := ∀ f c, X f = some c → ∀ args h v h', c args h = some (v, h') → Kp h h'
theorem acall_keep {P : Program} {X : Ext} (hX : ExtKp X) : ∀ n, CallKp (acall P X n) := by
  intro n
  induction n with
  | zero => intro tg args h v h' hs; simp [acall] at hs
  | succ n ih =>
    intro tg args h v h' hs
    simp only [acall] at hs
    split at hs
    · split at hs
      · rename_i c hc
        exact hX _ _ hc _ _ _ _ hs
      · split at hs
        · split at hs
          · split at hs
            · rename_i s1 h1
              split at hs
              · simp only [Option.some.injEq, Prod.mk.injEq] at hs
                obtain ⟨_, rfl⟩ := hs
                exact aex_keep ih _ _ _ _ _ _ h1
              · simp at hs
            · rename_i s1 h1
              split at hs
              · simp only [Option.some.injEq, Prod.mk.injEq] at hs
                obtain ⟨_, rfl⟩ := hs
                exact aex_keep ih _ _ _ _ _ _ h1
              · simp at hs
            · simp at hs
          · simp at hs
        · simp at hs
    · split at hs
      · split at hs
        · split at hs
          · rename_i s1 h1
            have k1 := aex_keep ih _ _ _ _ _ _ h1
            split at hs
            · rename_i hl1
              split at hs
              · rename_i e s2 h2
                have k2 := aex_keep ih _ _ _ _ _ _ h2
                split at hs
                · rename_i hl2
                  simp only [Option.some.injEq, Prod.mk.injEq] at hs
                  obtain ⟨_, rfl⟩ := hs
                  exact (k1.trans ((Kp.set hl1 (fun cs => by simp)).trans k2)).trans (Kp.set hl2 (fun cs => by simp))
                · simp at hs
              · simp at hs
            · simp at hs
          · simp at hs
        · simp at hs
      · simp at hs

/-! ### Drawn regions in which loads of such rows float -/
theorem aload_kp {P : Program} {h h' : AHeap} {t : TypeId} {g : Nat} {cs : List Value} (hb : h[g]? = some (.row cs false)) (k : Kp h h') : aload P h' t (.pointer (some ⟨g, 0, none⟩)) = aload P h t (.pointer (some ⟨g, 0, none⟩)) := by
  have hb' := k g cs hb
  have e1 : ∀ o n, loadN h' g o n = loadN h g o n := by intro o n; simp only [loadN, cells?, hb, hb']
  have e2 : ∀ o, load1 h' g o = load1 h g o := by intro o; simp only [load1, cells?, hb, hb']
  cases ht : ti P t with
  | none => simp only [aload, ht]
  | some i => simp only [aload, ht, e1, e2]
def globOf : Op → Option Nat
  | .load _ (.global g) => some g
  | _ => none
/-- The rows that the region reads by a global's name. -/
def globLoads (ops : Array Oper) : List Nat := ops.toList.filterMap fun o => globOf o.op
def calmOneG (P : Program) (ops : Array Oper) (i : Nat) : Bool :=
  match ops[i]? with
  | none => false
  | some o => match kindOf P o.op with
    | 0 => pureOnly P o.op
    | 1 => (match o.op with | .load .. => true | _ => false) && ((globOf o.op).isSome || calmLoad P ops i)
    | _ => true
def calmG (P : Program) (ops : Array Oper) : Bool := drawOK P ops && (List.range ops.size).all (calmOneG P ops)

section
variable {P : Program} {X : Ext} {ro : Option Nat} {M : Nat} {K : List Fm} {f : Nat → Value} {Q : AExit → FS → Prop}
theorem calm_drawG {call : ACall} (hcall : CallKp call) {ops : Array Oper} {h0 : AHeap} (hG : ∀ g ∈ globLoads ops, ∃ cs, h0[g]? = some (.row cs false)) (hc : ∀ i, i < ops.size → calmOneG P ops i = true) :
    ∀ (k i : Nat) {s s' : St} {hs : List (Nat × AHeap)} {rs : List (Nat × TypeId × Value × Value)}, i + k = ops.size → aops P call ops (List.range' i k) s = some s' → Kp h0 s.h → (∀ p ∈ hs, p.1 < i ∧ Kp h0 p.2) →
    (∀ p ∈ rs, (∃ g cs, h0[g]? = some (.row cs false) ∧ p.2.2.1 = .pointer (some ⟨g, 0, none⟩) ∧ aload P h0 p.2.1 p.2.2.1 = some p.2.2.2) ∨ (p.1 < i ∧ calmLoad P ops p.1 = true ∧ ((∃ j, i ≤ j ∧ j ∈ floats P ops p.1) → aload P s.h p.2.1 p.2.2.1 = some p.2.2.2))) → adraw P call ops (List.range' i k) s hs rs = some s' := by
  intro k
  induction k with
  | zero => intro i s s' hs rs _ h _ _ _; exact h
  | succ k ih =>
    intro i s s' hs rs hk h hkp hhs hrs
    have hci := hc i (by omega)
    have later : ∀ {h2 : AHeap}, (∀ p ∈ rs, p.1 < i → calmLoad P ops p.1 = true → (∃ j, i + 1 ≤ j ∧ j ∈ floats P ops p.1) → aload P s.h p.2.1 p.2.2.1 = some p.2.2.2 → aload P h2 p.2.1 p.2.2.1 = some p.2.2.2) →
        ∀ p ∈ rs, (∃ g cs, h0[g]? = some (.row cs false) ∧ p.2.2.1 = .pointer (some ⟨g, 0, none⟩) ∧ aload P h0 p.2.1 p.2.2.1 = some p.2.2.2) ∨ (p.1 < i + 1 ∧ calmLoad P ops p.1 = true ∧ ((∃ j, i + 1 ≤ j ∧ j ∈ floats P ops p.1) → aload P h2 p.2.1 p.2.2.1 = some p.2.2.2)) := by
      intro h2 hk p hp
      rcases hrs p hp with hgl | ⟨q1, q2, q3⟩
      · exact Or.inl hgl
      · refine Or.inr ⟨by omega, q2, fun hj => hk p hp q1 q2 hj (q3 ?_)⟩
        obtain ⟨j, hj1, hj2⟩ := hj
        exact ⟨j, by omega, hj2⟩
    have hhs1 : ∀ p ∈ hs, p.1 < i + 1 ∧ Kp h0 p.2 := fun p hp => ⟨by have := (hhs p hp).1; omega, (hhs p hp).2⟩
    rw [List.range'_succ] at h ⊢
    simp only [aops] at h
    simp only [adraw]
    unfold calmOneG at hci
    split at h
    · simp at h
    · rename_i o ho
      rw [ho] at hci
      simp only at hci
      split at h
      · rename_i hw
        rw [if_pos hw]
        split at h
        · rename_i v h2 hv
          have hkp2 : Kp h0 h2 := hkp.trans (aop_keep hcall hv)
          match hk' : kindOf P o.op with
          | 0 =>
            rw [hk'] at hci
            obtain ⟨p1, p2⟩ := pure_op hci hv
            subst p2
            simp only [p1]
            exact ih (i + 1) (by omega) h hkp hhs1 (later fun p hp _ _ _ hl => hl)
          | 1 =>
            rw [hk'] at hci
            simp only [Bool.and_eq_true] at hci
            obtain ⟨q1, q2⟩ := hci
            split at q1
            · rename_i t a hop
              rw [hop] at hv ⊢
              simp only [aop, apure, aread, aeff] at hv
              simp only
              cases hl : aload P s.h t (aeval s.t a) with
              | none => rw [hl] at hv; simp at hv
              | some u =>
                rw [hl] at hv
                simp only [Option.some.injEq, Prod.mk.injEq] at hv
                obtain ⟨rfl, rfl⟩ := hv
                cases hgo : globOf o.op with
                | some g =>
                  have ha : a = .global g := by
                    rw [hop] at hgo
                    unfold globOf at hgo
                    split at hgo
                    · rename_i t' g' e
                      simp only [Option.some.injEq] at hgo
                      simp only [Op.load.injEq] at e
                      rw [e.2, hgo]
                    · simp at hgo
                  subst ha
                  obtain ⟨cs, hcs⟩ := hG g (by
                    unfold globLoads
                    rw [List.mem_filterMap]
                    exact ⟨o, Array.mem_toList_iff.2 (Array.mem_of_getElem? ho), hgo⟩)
                  have hev : aeval s.t (.global g) = .pointer (some ⟨g, 0, none⟩) := rfl
                  have hsame : ∀ {h3 : AHeap}, Kp h0 h3 → aload P h3 t (aeval s.t (.global g)) = some u := by
                    intro h3 hk3
                    rw [hev, aload_kp hcs hk3, ← aload_kp hcs hkp, ← hev]; exact hl
                  refine (if_pos ?_).trans ?_
                  · rw [List.all_eq_true]
                    intro p hp
                    rw [hsame (hhs p hp).2]
                    simp only [same_refl, Bool.or_true]
                  refine ih (i + 1) (by omega) h hkp hhs1 ?_
                  have base := later (h2 := s.h) fun p hp _ _ _ hl => hl
                  split
                  · exact base
                  · intro p hp
                    rcases List.mem_cons.1 hp with rfl | hp
                    · exact Or.inl ⟨g, cs, hcs, rfl, hsame (Kp.refl _)⟩
                    · exact base p hp
                | none =>
                  rw [hgo] at q2
                  simp only [Option.isSome_none, Bool.false_or] at q2
                  have hfl : ∀ j ∈ floats P ops i, i < j := by
                    intro j hj
                    have := List.all_eq_true.1 q2 j hj
                    simp only [Bool.and_eq_true] at this
                    exact Nat.le_of_ble_eq_true this.1
                  refine (if_pos ?_).trans ?_
                  · rw [List.all_eq_true]
                    intro p hp
                    have h1 := (hhs p hp).1
                    have : (floats P ops i).contains p.1 = false := by
                      rw [Bool.eq_false_iff]
                      intro hcn
                      have := hfl p.1 (by simpa using hcn)
                      omega
                    simp only [this, Bool.not_false, Bool.true_or]
                  refine ih (i + 1) (by omega) h hkp hhs1 ?_
                  have base := later (h2 := s.h) fun p hp _ _ _ hl => hl
                  split
                  · exact base
                  · intro p hp
                    rcases List.mem_cons.1 hp with rfl | hp
                    · exact Or.inr ⟨by simp, q2, fun _ => hl⟩
                    · exact base p hp
            · simp at q1
          | n + 2 =>
            have hgrow : ∀ p ∈ rs, p.1 < i → calmLoad P ops p.1 = true → (∃ j, i ≤ j ∧ j ∈ floats P ops p.1) → growOp o.op = true := by
              intro p hp q1 q2 ⟨j, hj1, hj2⟩
              have := List.all_eq_true.1 q2 j hj2
              simp only [Bool.and_eq_true] at this
              have := List.all_eq_true.1 this.2 i (by simp; omega)
              simp only [Bool.or_eq_true] at this
              rcases this with h1 | h1
              · have := Nat.le_of_ble_eq_true h1; omega
              · simp only [growAt, ho, hk', Bool.or_eq_true] at h1
                rcases h1 with h1 | h1
                · have hk2 : kindOf P o.op ≤ 2 := by rcases kindOf_le (P := P) o.op with e | e | e <;> omega
                  have : n = 0 := by omega
                  subst this; simp at h1
                · exact h1
            simp only [hv]
            refine (if_pos ?_).trans ?_
            · rw [List.all_eq_true]
              intro p hp
              cases hcn : (floats P ops p.1).contains i with
              | false => rfl
              | true =>
                have hin : i ∈ floats P ops p.1 := by simpa using hcn
                rcases hrs p hp with ⟨g, cs, hcs, ep, hl⟩ | ⟨q1, q2, q3⟩
                · rw [ep] at hl ⊢
                  rw [aload_kp hcs hkp2, hl]
                  simp only [same_refl, Bool.or_true]
                · obtain ⟨g, hg⟩ := growOp_spec (hgrow p hp q1 q2 ⟨i, Nat.le_refl i, hin⟩) hv
                  rw [hg, aload_grow g (q3 ⟨i, Nat.le_refl i, hin⟩)]
                  simp only [same_refl, Bool.or_true]
            refine ih (i + 1) (by omega) h hkp2 (fun p hp => ?_) (later fun p hp q1 q2 hj hl => ?_)
            · rcases List.mem_cons.1 hp with rfl | hp
              · exact ⟨by simp, hkp⟩
              · exact hhs1 p hp
            · obtain ⟨j, h1, h2⟩ := hj
              obtain ⟨g, hg⟩ := growOp_spec (hgrow p hp q1 q2 ⟨j, by omega, h2⟩) hv
              rw [hg]
              exact aload_grow g hl
        · simp at h
      · rename_i hw
        rw [if_neg hw]
        exact ih (i + 1) (by omega) h hkp hhs1 (later fun p hp _ _ _ hl => hl)

theorem Fin_calmG (hX : ExtKp X) {i : Nat} {ops : Array Oper} {x : FS} (hc : calmG P ops = true) (hG : ∀ g ∈ globLoads ops, ∃ cs, x.h[g]? = some (.row cs false)) (k : Fin P X ro M (.ops ops ops.toList :: K) .normal x Q) : Fin P X ro M (.code (.region i ops true) :: K) .normal x Q := by
  intro s r
  obtain ⟨N, e', s', x', a, b, c⟩ := k s r
  refine ⟨N, e', s', x', a, b, fun n m hn hm => ?_⟩
  have h1 := c n m hn hm
  simp only [kex, frOne] at h1
  simp only [calmG, Bool.and_eq_true] at hc
  simp only [kex, frOne, aex, aregion, if_true, hc.1]
  have e1 := aops_eq (P := P) (call := acall P X n) (all := ops) ops.size 0 s (by simp)
  rw [List.drop_zero] at e1
  cases hl : aopsL P (acall P X n) ops ops.toList s with
  | none => rw [hl] at h1; simp at h1
  | some s1 =>
    rw [hl] at h1 e1
    have e2 := calm_drawG (acall_keep hX n) (h0 := s.h) (fun g hg => by have := hG g hg; rw [r.heap]; exact this) (fun i hi => List.all_eq_true.1 hc.2 i (by simpa using hi)) ops.size 0 (hs := []) (rs := []) (by simp) e1 (Kp.refl _) (by simp) (by simp)
    rw [← List.range_eq_range'] at e2
    rw [e2]
    exact h1
def isDrawG (P : Program) (K : List Fm) : Bool := match K with | .code (.region _ ops true) :: _ => calmG P ops | _ => false
def drawGs (K : List Fm) : List Nat := match K with | .code (.region _ ops true) :: _ => globLoads ops | _ => []
/-- At a drawn region in which, beyond what may float in 'Draw', but rows float that are never written. -/
theorem DrawR (gs : List Nat) {h : AHeap} (hX : ExtKp X) (hd : isDrawG P K = true) (hgs : drawGs K = gs) (hG : ∀ g ∈ gs, ∃ cs, h[g]? = some (.row cs false)) (k : Fin P X ro M (undraw K) .normal ⟨f, h⟩ Q) : Fin P X ro M K .normal ⟨f, h⟩ Q := by
  subst hgs
  unfold isDrawG at hd
  split at hd
  · exact Fin_calmG hX hd hG k
  · simp at hd
end
end Go.AM
