/-
  THE ABSTRACT EXECUTOR, SYMBOLICALLY: regions that draw their order, where no read may pass an effect: as if in the text's order.
-/
import Derived.Test.YtknpjlcgjlnfbaaGreatDoorVc5
set_option linter.unusedSimpArgs false
set_option linter.unusedVariables false
namespace Go.AM
variable {P : Program} {X : Ext} {ro : Option Nat} {M : Nat} {K : List Fm} {e : AExit} {f : Nat → Value} {h : AHeap} {Q : AExit → FS → Prop}

/-- Operations that answer by their operands alone, or not at all. -/
def pureOnly (P : Program) : Op → Bool
  | .move _ | .assign _ | .pick .. | .build .. | .nilCheck _ | .binOp .. | .unOp .. | .makeInterface .. | .makeFunc .. | .fieldAddr .. | .field .. | .indexAddr .. | .index .. | .extract .. => true
  | .call { callee := .builtin .min, .. } | .call { callee := .builtin .max, .. } => true
  | .call { callee := .builtin .len, argTypes, .. } => match argTypes.toList with
    | [t] => (match P.underlying t with | some (.slice _) | some .string => true | _ => false)
    | _ => false
  | .slice t _ _ _ _ => (match ti P t with | some ⟨.slice _, _, _, _⟩ | some ⟨.string, _, _, _⟩ => true | _ => false)
  | .convert s d _ => (match P.underlying s with | some (.slice _) => false | _ => true) && (match P.underlying d with | some (.int _) | some .string => true | _ => false)
  | _ => false
theorem pure_op {call : ACall} {ρ : Operand → Value} {h h' : AHeap} {op : Op} {v : Value} (hp : pureOnly P op = true) (ha : aop P call ρ h op = some (v, h')) : apure P ρ op = some v ∧ h' = h := by
  have fin : ∀ {o : Option Value}, (match o with | some v => some (v, h) | none => match aread P ρ h op with | some v => some (v, h) | none => aeff P ρ h op) = some (v, h') → aread P ρ h op = none → aeff P ρ h op = none → o = some v ∧ h' = h := by
    intro o ho h1 h2
    cases o with
    | none => simp only [h1, h2, reduceCtorEq] at ho
    | some u => simp only [Option.some.injEq, Prod.mk.injEq] at ho; exact ⟨by rw [ho.1], ho.2.symm⟩
  cases op with
  | call c =>
    obtain ⟨callee, args, argTypes⟩ := c
    cases callee with
    | value g => simp [pureOnly] at hp
    | invoke a b => simp [pureOnly] at hp
    | builtin b =>
      cases b <;> simp only [pureOnly, reduceCtorEq, Bool.false_eq_true] at hp
      all_goals simp only [aop] at ha
      all_goals refine fin ha ?_ ?_
      all_goals try rfl
      -- len
      simp only [aread]
      split at hp
      · rename_i t ht
        split
        · rename_i x t' hx ht'
          rw [ht] at ht'
          simp only [List.cons.injEq, and_true] at ht'; subst ht'
          unfold alenMap
          split at hp <;> (try (simp at hp; done))
          · rename_i hu; simp [hu]
          · rename_i hu; simp [hu]
        · rfl
      · simp at hp
  | slice t x lo hi mx =>
    simp only [aop] at ha
    refine fin ha ?_ rfl
    simp only [aread, asliceArr]
    simp only [pureOnly] at hp
    split at hp <;> (try (simp at hp; done)) <;> rename_i ht <;> simp [ht]
  | convert a b x =>
    simp only [aop] at ha
    simp only [pureOnly, Bool.and_eq_true] at hp
    obtain ⟨hp1, hp2⟩ := hp
    refine fin ha ?_ ?_
    · simp only [aread, abytes]
      split at hp1
      · simp at hp1
      · rename_i hns
        split
        all_goals first | rfl | exact absurd (by assumption) (hns _)
    · simp only [aeff]
      split at hp2 <;> (try (simp at hp2; done)) <;> rename_i hu <;> simp [hu]
  | _ =>
    first
    | (simp [pureOnly] at hp; done)
    | (simp only [aop] at ha; exact fin ha rfl rfl)

/-- Operations that at most put new objects behind the others. -/
def growOp : Op → Bool
  | .alloc _ | .box _ _ | .buildSlice .. | .makeSlice .. | .convert .. => true
  | _ => false
theorem growOp_spec {call : ACall} {ρ : Operand → Value} {h h' : AHeap} {op : Op} {v : Value} (hg : growOp op = true) (ha : aop P call ρ h op = some (v, h')) : ∃ g, h' = h ++ g := by
  have two : (h' = h ∨ aeff P ρ h op = some (v, h')) := by
    cases op <;> simp only [growOp, Bool.false_eq_true] at hg
    all_goals
      simp only [aop] at ha
      split at ha
      · simp only [Option.some.injEq, Prod.mk.injEq] at ha; exact Or.inl ha.2.symm
      · split at ha
        · simp only [Option.some.injEq, Prod.mk.injEq] at ha; exact Or.inl ha.2.symm
        · exact Or.inr ha
  rcases two with rfl | he
  · exact ⟨[], by simp⟩
  · cases op <;> simp only [growOp, Bool.false_eq_true] at hg
    all_goals
      simp only [aeff, anew, abuildSlice, amakeSlice] at he
      repeat' split at he
      all_goals first
        | (simp at he; done)
        | (simp only [Option.some.injEq, Prod.mk.injEq] at he; exact ⟨_, he.2.symm⟩)
theorem aload_grow {h : AHeap} (g : AHeap) {t : TypeId} {a v : Value} (hl : aload P h t a = some v) : aload P (h ++ g) t a = some v := by
  have cell : ∀ b cs, cells? h b = some cs → cells? (h ++ g) b = some cs := by
    intro b cs hc
    unfold cells? at hc ⊢
    split at hc
    · rename_i cs' own hb
      have : b < h.length := by
        by_cases hh : b < h.length
        · exact hh
        · rw [List.getElem?_eq_none (by omega)] at hb; simp at hb
      rw [List.getElem?_append_left this, hb]; exact hc
    · simp at hc
  unfold aload at hl ⊢
  split at hl
  · rename_i b o i hi
    split at hl
    · rename_i hg
      rw [if_pos hg]
      unfold loadN at hl ⊢
      cases hc : cells? h b with
      | none => rw [hc] at hl; simp at hl
      | some cs => rw [hc] at hl; rw [cell _ _ hc]; exact hl
    · rename_i hg
      rw [if_neg hg]
      unfold load1 at hl ⊢
      cases hc : cells? h b with
      | none => rw [hc] at hl; simp at hl
      | some cs => rw [hc] at hl; rw [cell _ _ hc]; exact hl
  · simp at hl
/-- A drawn region in which loads float past such operations only. -/
def growAt (P : Program) (ops : Array Oper) (e : Nat) : Bool := match ops[e]? with
  | some o => kindOf P o.op != 2 || growOp o.op
  | none => true
def calmLoad (P : Program) (ops : Array Oper) (i : Nat) : Bool :=
  (floats P ops i).all fun j => Nat.blt i j && (List.range (j + 1)).all fun e => Nat.ble e i || growAt P ops e
def calmOne (P : Program) (ops : Array Oper) (i : Nat) : Bool :=
  match ops[i]? with
  | none => false
  | some o => match kindOf P o.op with
    | 0 => pureOnly P o.op
    | 1 => (match o.op with | .load .. => true | _ => false) && calmLoad P ops i
    | _ => true
def calm (P : Program) (ops : Array Oper) : Bool := drawOK P ops && (List.range ops.size).all (calmOne P ops)

theorem calm_draw {call : ACall} {ops : Array Oper} (hc : ∀ i, i < ops.size → calmOne P ops i = true) :
    ∀ (k i : Nat) {s s' : St} {hs : List (Nat × AHeap)} {rs : List (Nat × TypeId × Value × Value)}, i + k = ops.size → aops P call ops (List.range' i k) s = some s' → (∀ p ∈ hs, p.1 < i) →
    (∀ p ∈ rs, p.1 < i ∧ calmLoad P ops p.1 = true ∧ ((∃ j, i ≤ j ∧ j ∈ floats P ops p.1) → aload P s.h p.2.1 p.2.2.1 = some p.2.2.2)) → adraw P call ops (List.range' i k) s hs rs = some s' := by
  intro k
  induction k with
  | zero => intro i s s' hs rs _ h _ _; exact h
  | succ k ih =>
    intro i s s' hs rs hk h hhs hrs
    have hci := hc i (by omega)
    have later : ∀ {h2 : AHeap}, (∀ p ∈ rs, (∃ j, i + 1 ≤ j ∧ j ∈ floats P ops p.1) → aload P s.h p.2.1 p.2.2.1 = some p.2.2.2 → aload P h2 p.2.1 p.2.2.1 = some p.2.2.2) →
        ∀ p ∈ rs, p.1 < i + 1 ∧ calmLoad P ops p.1 = true ∧ ((∃ j, i + 1 ≤ j ∧ j ∈ floats P ops p.1) → aload P h2 p.2.1 p.2.2.1 = some p.2.2.2) := by
      intro h2 hk p hp
      obtain ⟨q1, q2, q3⟩ := hrs p hp
      refine ⟨by omega, q2, fun hj => hk p hp hj (q3 ?_)⟩
      obtain ⟨j, hj1, hj2⟩ := hj
      exact ⟨j, by omega, hj2⟩
    have hhs1 : ∀ p ∈ hs, p.1 < i + 1 := fun p hp => by have := hhs p hp; omega
    rw [List.range'_succ] at h ⊢
    simp only [aops] at h
    simp only [adraw]
    unfold calmOne at hci
    split at h
    · simp at h
    · rename_i o ho
      rw [ho] at hci
      simp only at hci
      split at h
      · rename_i hw
        rw [if_pos hw]
        split at h
        · rename_i v h2 hv
          match hk' : kindOf P o.op with
          | 0 =>
            rw [hk'] at hci
            obtain ⟨p1, p2⟩ := pure_op hci hv
            subst p2
            simp only [p1]
            exact ih (i + 1) (by omega) h hhs1 (later fun p hp _ hl => hl)
          | 1 =>
            rw [hk'] at hci
            simp only [Bool.and_eq_true] at hci
            obtain ⟨q1, q2⟩ := hci
            split at q1
            · rename_i t a hop
              rw [hop] at hv ⊢
              simp only [aop, apure, aread, aeff] at hv
              simp only
              cases hl : aload P s.h t (aeval s.t a) with
              | none => rw [hl] at hv; simp at hv
              | some u =>
                rw [hl] at hv
                simp only [Option.some.injEq, Prod.mk.injEq] at hv
                obtain ⟨rfl, rfl⟩ := hv
                have hfl : ∀ j ∈ floats P ops i, i < j := by
                  intro j hj
                  have := List.all_eq_true.1 q2 j hj
                  simp only [Bool.and_eq_true] at this
                  exact Nat.le_of_ble_eq_true this.1
                refine (if_pos ?_).trans ?_
                · rw [List.all_eq_true]
                  intro p hp
                  have h1 := hhs p hp
                  have : (floats P ops i).contains p.1 = false := by
                    rw [Bool.eq_false_iff]
                    intro hcn
                    have := hfl p.1 (by simpa using hcn)
                    omega
                  simp only [this, Bool.not_false, Bool.true_or]
                refine ih (i + 1) (by omega) h hhs1 ?_
                have base := later (h2 := s.h) fun p hp _ hl => hl
                split
                · exact base
                · intro p hp
                  rcases List.mem_cons.1 hp with rfl | hp
                  · exact ⟨by simp, q2, fun _ => hl⟩
                  · exact base p hp
            · simp at q1
          | n + 2 =>
            have hgrow : ∀ p ∈ rs, (∃ j, i ≤ j ∧ j ∈ floats P ops p.1) → growOp o.op = true := by
              intro p hp ⟨j, hj1, hj2⟩
              obtain ⟨q1, q2, _⟩ := hrs p hp
              have := List.all_eq_true.1 q2 j hj2
              simp only [Bool.and_eq_true] at this
              have := List.all_eq_true.1 this.2 i (by simp; omega)
              simp only [Bool.or_eq_true] at this
              rcases this with h1 | h1
              · have := Nat.le_of_ble_eq_true h1; omega
              · simp only [growAt, ho, hk', Bool.or_eq_true] at h1
                rcases h1 with h1 | h1
                · have hk2 : kindOf P o.op ≤ 2 := by rcases kindOf_le (P := P) o.op with e | e | e <;> omega
                  have : n = 0 := by omega
                  subst this; simp at h1
                · exact h1
            have keep : ∀ p ∈ rs, (∃ j, i ≤ j ∧ j ∈ floats P ops p.1) → aload P h2 p.2.1 p.2.2.1 = some p.2.2.2 := by
              intro p hp hj
              obtain ⟨g, hg⟩ := growOp_spec (hgrow p hp hj) hv
              rw [hg]
              exact aload_grow g ((hrs p hp).2.2 hj)
            simp only [hv]
            refine (if_pos ?_).trans ?_
            · rw [List.all_eq_true]
              intro p hp
              cases hcn : (floats P ops p.1).contains i with
              | false => rfl
              | true =>
                have hin : i ∈ floats P ops p.1 := by simpa using hcn
                rw [keep p hp ⟨i, Nat.le_refl i, hin⟩]
                simp only [same_refl, Bool.or_true]
            refine ih (i + 1) (by omega) h (fun p hp => ?_) (later fun p hp hj _ => ?_)
            · rcases List.mem_cons.1 hp with rfl | hp
              · simp
              · exact hhs1 p hp
            · obtain ⟨j, h1, h2⟩ := hj
              exact keep p hp ⟨j, by omega, h2⟩
        · simp at h
      · rename_i hw
        rw [if_neg hw]
        exact ih (i + 1) (by omega) h hhs1 (later fun p hp _ hl => hl)

theorem Fin_calm {i : Nat} {ops : Array Oper} {x : FS} (hc : calm P ops = true) (k : Fin P X ro M (.ops ops ops.toList :: K) .normal x Q) : Fin P X ro M (.code (.region i ops true) :: K) .normal x Q := by
  intro s r
  obtain ⟨N, e', s', x', a, b, c⟩ := k s r
  refine ⟨N, e', s', x', a, b, fun n m hn hm => ?_⟩
  have h1 := c n m hn hm
  simp only [kex, frOne] at h1
  simp only [calm, Bool.and_eq_true] at hc
  simp only [kex, frOne, aex, aregion, if_true, hc.1]
  have e1 := aops_eq (P := P) (call := acall P X n) (all := ops) ops.size 0 s (by simp)
  rw [List.drop_zero] at e1
  cases hl : aopsL P (acall P X n) ops ops.toList s with
  | none => rw [hl] at h1; simp at h1
  | some s1 =>
    rw [hl] at h1 e1
    have e2 := calm_draw (fun i hi => List.all_eq_true.1 hc.2 i (by simpa using hi)) ops.size 0 (hs := []) (rs := []) (by simp) e1 (by simp) (by simp)
    rw [← List.range_eq_range'] at e2
    rw [e2]
    exact h1
def isDraw (P : Program) (K : List Fm) : Bool := match K with | .code (.region _ ops true) :: _ => calm P ops | _ => false
def undraw (K : List Fm) : List Fm := match K with | .code (.region _ ops true) :: K => .ops ops ops.toList :: K | K => K
/-- At a drawn region in which nothing floats: on, in the text's order. -/
theorem Draw {x : FS} (hd : isDraw P K = true) (k : Fin P X ro M (undraw K) .normal x Q) : Fin P X ro M K .normal x Q := by
  unfold isDraw at hd
  split at hd
  · exact Fin_calm hd k
  · simp at hd
/-- A new slice. -/
def vMake (K : List Fm) (f : Nat → Value) : Option (TypeId × Value × Value) := match hop K with | some (.makeSlice t l c) => some (t, fev f l, fev f c) | _ => none
theorem Make (t : TypeId) (l c v : Value) (h' : AHeap) (hl : vMake K f = some (t, l, c)) (hn : onOK M K = true) (hv : amakeSlice P h t l c = some (v, h'))
    (k : Fin P X ro M (onK M K) .normal ⟨fput f (onD M K) v, h'⟩ Q) : Fin P X ro M K .normal ⟨f, h⟩ Q := by
  unfold vMake at hl
  split at hl
  · rename_i t' l' c' ho
    simp only [Option.some.injEq, Prod.mk.injEq] at hl
    obtain ⟨rfl, rfl, rfl⟩ := hl
    exact Fin_head v h' (head_of ho (by simp only [aop, apure, aread, aeff, hv])) hn k
  · simp at hl
/-- A new variable. -/
def vAlloc (K : List Fm) : Option TypeId := match hop K with | some (.alloc t) => some t | _ => none
theorem Alloc (t : TypeId) {i : TI} (hl : vAlloc K = some t) (hn : onOK M K = true) (ht : ti P t = some i) (hd : isData i.zero = true)
    (k : Fin P X ro M (onK M K) .normal ⟨fput f (onD M K) (.pointer (some ⟨h.length, 0, none⟩)), h ++ [.row i.zero.cells.toList true]⟩ Q) : Fin P X ro M K .normal ⟨f, h⟩ Q := by
  unfold vAlloc at hl
  split at hl
  · rename_i t' ho
    simp only [Option.some.injEq] at hl; subst hl
    exact Fin_head _ _ (head_of ho (by simp only [aop, apure, aread, aeff, ht, hd, if_true, anew])) hn k
  · simp at hl
def vBox (K : List Fm) (f : Nat → Value) : Option Value := match hop K with | some (.box _ x) => some (fev f x) | _ => none
theorem Box (v : Value) (hl : vBox K f = some v) (hn : onOK M K = true) (hd : isData v = true)
    (k : Fin P X ro M (onK M K) .normal ⟨fput f (onD M K) (.pointer (some ⟨h.length, 0, none⟩)), h ++ [.row v.cells.toList true]⟩ Q) : Fin P X ro M K .normal ⟨f, h⟩ Q := by
  unfold vBox at hl
  split at hl
  · rename_i t' x' ho
    simp only [Option.some.injEq] at hl; subst hl
    exact Fin_head _ _ (head_of ho (by simp only [aop, apure, aread, aeff, hd, if_true, anew])) hn k
  · simp at hl
end Go.AM
