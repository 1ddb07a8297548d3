/-
  THE ABSTRACT EXECUTOR, SYMBOLICALLY: regions that draw their order, where no read may pass an effect: as if in the text's order.
-/
import Derived.Test.YtpbmpdocgplhpaaDoorVc5
set_option linter.unusedSimpArgs false
set_option linter.unusedVariables false
namespace Go.AM
variable {P : Program} {X : Ext} {ro : Option Nat} {M : Nat} {K : List Fm} {e : AExit} {f : Nat → Value} {h : AHeap} {Q : AExit → FS → Prop}

/-- Operations that answer by their operands alone, or not at all. -/
def pureOnly (P : Program) : Op → Bool
  | .move _ | .assign _ | .pick .. | .build .. | .nilCheck _ | .binOp .. | .unOp .. | .makeInterface .. | .makeFunc .. | .fieldAddr .. | .field .. | .indexAddr .. | .index .. | .extract .. => true
  | .call { callee := .builtin .min, .. } | .call { callee := .builtin .max, .. } => true
  | .call { callee := .builtin .len, argTypes, .. } => match argTypes.toList with
    | [t] => (match P.underlying t with | some (.slice _) | some .string => true | _ => false)
    | _ => false
  | .slice t _ _ _ _ => (match ti P t with | some ⟨.slice _, _, _, _⟩ | some ⟨.string, _, _, _⟩ => true | _ => false)
  | .convert _ d _ => (match P.underlying d with | some (.int _) | some .string => true | _ => false)
  | _ => false
theorem pure_op {call : ACall} {ρ : Operand → Value} {h h' : AHeap} {op : Op} {v : Value} (hp : pureOnly P op = true) (ha : aop P call ρ h op = some (v, h')) : apure P ρ op = some v ∧ h' = h := by
  have fin : ∀ {o : Option Value}, (match o with | some v => some (v, h) | none => match aread P ρ h op with | some v => some (v, h) | none => aeff P ρ h op) = some (v, h') → aread P ρ h op = none → aeff P ρ h op = none → o = some v ∧ h' = h := by
    intro o ho h1 h2
    cases o with
    | none => simp only [h1, h2, reduceCtorEq] at ho
    | some u => simp only [Option.some.injEq, Prod.mk.injEq] at ho; exact ⟨by rw [ho.1], ho.2.symm⟩
  cases op with
  | call c =>
    obtain ⟨callee, args, argTypes⟩ := c
    cases callee with
    | value g => simp [pureOnly] at hp
    | invoke a b => simp [pureOnly] at hp
    | builtin b =>
      cases b <;> simp only [pureOnly, reduceCtorEq, Bool.false_eq_true] at hp
      all_goals simp only [aop] at ha
      all_goals refine fin ha ?_ ?_
      all_goals try rfl
      -- len
      simp only [aread]
      split at hp
      · rename_i t ht
        split
        · rename_i x t' hx ht'
          rw [ht] at ht'
          simp only [List.cons.injEq, and_true] at ht'; subst ht'
          unfold alenMap
          split at hp <;> (try (simp at hp; done))
          · rename_i hu; simp [hu]
          · rename_i hu; simp [hu]
        · rfl
      · simp at hp
  | slice t x lo hi mx =>
    simp only [aop] at ha
    refine fin ha ?_ rfl
    simp only [aread, asliceArr]
    simp only [pureOnly] at hp
    split at hp <;> (try (simp at hp; done)) <;> rename_i ht <;> simp [ht]
  | convert a b x =>
    simp only [aop] at ha
    refine fin ha rfl ?_
    simp only [aeff]
    simp only [pureOnly] at hp
    split at hp <;> (try (simp at hp; done)) <;> rename_i hu <;> simp [hu]
  | _ =>
    first
    | (simp [pureOnly] at hp; done)
    | (simp only [aop] at ha; exact fin ha rfl rfl)

/-- A drawn region in which nothing floats. -/
def calmOne (P : Program) (ops : Array Oper) (i : Nat) : Bool :=
  match ops[i]? with
  | none => false
  | some o => match kindOf P o.op with
    | 0 => pureOnly P o.op
    | 1 => (match o.op with | .load .. => true | _ => false) && (floats P ops i).isEmpty
    | _ => true
def calm (P : Program) (ops : Array Oper) : Bool := drawOK P ops && (List.range ops.size).all (calmOne P ops)

theorem calm_draw {call : ACall} {ops : Array Oper} : ∀ {l : List Nat} {s s' : St} {hs : List (Nat × AHeap)}, l.all (calmOne P ops) = true → aops P call ops l s = some s' → adraw P call ops l s hs [] = some s' := by
  intro l
  induction l with
  | nil => intro s s' hs _ h; exact h
  | cons i l ih =>
    intro s s' hs hc h
    simp only [List.all_cons, Bool.and_eq_true] at hc
    obtain ⟨hc1, hc2⟩ := hc
    simp only [aops] at h
    simp only [adraw]
    unfold calmOne at hc1
    split at h
    · simp at h
    · rename_i o ho
      rw [ho] at hc1
      simp only at hc1
      split at h
      · rename_i hw
        rw [if_pos hw]
        split at h
        · rename_i v h2 hv
          match hk : kindOf P o.op with
          | 0 =>
            rw [hk] at hc1
            obtain ⟨p1, p2⟩ := pure_op hc1 hv
            subst p2
            simp only [p1]
            exact ih hc2 h
          | 1 =>
            rw [hk] at hc1
            simp only [Bool.and_eq_true] at hc1
            obtain ⟨q1, q2⟩ := hc1
            split at q1
            · rename_i t a hop
              rw [hop] at hv ⊢
              simp only [aop, apure, aread, aeff] at hv
              have hfl : floats P ops i = [] := by simpa using q2
              simp only
              cases hl : aload P s.h t (aeval s.t a) with
              | none => rw [hl] at hv; simp at hv
              | some u =>
                rw [hl] at hv
                simp only [Option.some.injEq, Prod.mk.injEq] at hv
                obtain ⟨rfl, rfl⟩ := hv
                simp only [hfl, List.contains_nil, Bool.not_false, Bool.true_or, List.isEmpty_nil, if_true]
                have : (hs.all fun p => true) = true := by simp
                simp only [this, if_true]
                exact ih hc2 h
            · simp at q1
          | n + 2 =>
            simp only [hv, List.all_nil, if_true]
            exact ih hc2 h
        · simp at h
      · rename_i hw
        rw [if_neg hw]
        exact ih hc2 h

theorem Fin_calm {i : Nat} {ops : Array Oper} {x : FS} (hc : calm P ops = true) (k : Fin P X ro M (.ops ops ops.toList :: K) .normal x Q) : Fin P X ro M (.code (.region i ops true) :: K) .normal x Q := by
  intro s r
  obtain ⟨N, e', s', x', a, b, c⟩ := k s r
  refine ⟨N, e', s', x', a, b, fun n m hn hm => ?_⟩
  have h1 := c n m hn hm
  simp only [kex, frOne] at h1
  simp only [calm, Bool.and_eq_true] at hc
  simp only [kex, frOne, aex, aregion, if_true, hc.1]
  have e1 := aops_eq (P := P) (call := acall P X n) (all := ops) ops.size 0 s (by simp)
  rw [List.drop_zero] at e1
  cases hl : aopsL P (acall P X n) ops ops.toList s with
  | none => rw [hl] at h1; simp at h1
  | some s1 =>
    rw [hl] at h1 e1
    rw [← List.range_eq_range'] at e1
    rw [calm_draw hc.2 e1]
    exact h1
def isDraw (P : Program) (K : List Fm) : Bool := match K with | .code (.region _ ops true) :: _ => calm P ops | _ => false
def undraw (K : List Fm) : List Fm := match K with | .code (.region _ ops true) :: K => .ops ops ops.toList :: K | K => K
/-- At a drawn region in which nothing floats: on, in the text's order. -/
theorem Draw {x : FS} (hd : isDraw P K = true) (k : Fin P X ro M (undraw K) .normal x Q) : Fin P X ro M K .normal x Q := by
  unfold isDraw at hd
  split at hd
  · exact Fin_calm hd k
  · simp at hd
/-- A new slice. -/
def vMake (K : List Fm) (f : Nat → Value) : Option (TypeId × Value × Value) := match hop K with | some (.makeSlice t l c) => some (t, fev f l, fev f c) | _ => none
theorem Make (t : TypeId) (l c v : Value) (h' : AHeap) (hl : vMake K f = some (t, l, c)) (hn : onOK M K = true) (hv : amakeSlice P h t l c = some (v, h'))
    (k : Fin P X ro M (onK M K) .normal ⟨fput f (onD M K) v, h'⟩ Q) : Fin P X ro M K .normal ⟨f, h⟩ Q := by
  unfold vMake at hl
  split at hl
  · rename_i t' l' c' ho
    simp only [Option.some.injEq, Prod.mk.injEq] at hl
    obtain ⟨rfl, rfl, rfl⟩ := hl
    exact Fin_head v h' (head_of ho (by simp only [aop, apure, aread, aeff, hv])) hn k
  · simp at hl
/-- A new variable. -/
def vAlloc (K : List Fm) : Option TypeId := match hop K with | some (.alloc t) => some t | _ => none
theorem Alloc (t : TypeId) {i : TI} (hl : vAlloc K = some t) (hn : onOK M K = true) (ht : ti P t = some i) (hd : isData i.zero = true)
    (k : Fin P X ro M (onK M K) .normal ⟨fput f (onD M K) (.pointer (some ⟨h.length, 0, none⟩)), h ++ [.row i.zero.cells.toList true]⟩ Q) : Fin P X ro M K .normal ⟨f, h⟩ Q := by
  unfold vAlloc at hl
  split at hl
  · rename_i t' ho
    simp only [Option.some.injEq] at hl; subst hl
    exact Fin_head _ _ (head_of ho (by simp only [aop, apure, aread, aeff, ht, hd, if_true, anew])) hn k
  · simp at hl
def vBox (K : List Fm) (f : Nat → Value) : Option Value := match hop K with | some (.box _ x) => some (fev f x) | _ => none
theorem Box (v : Value) (hl : vBox K f = some v) (hn : onOK M K = true) (hd : isData v = true)
    (k : Fin P X ro M (onK M K) .normal ⟨fput f (onD M K) (.pointer (some ⟨h.length, 0, none⟩)), h ++ [.row v.cells.toList true]⟩ Q) : Fin P X ro M K .normal ⟨f, h⟩ Q := by
  unfold vBox at hl
  split at hl
  · rename_i t' x' ho
    simp only [Option.some.injEq] at hl; subst hl
    exact Fin_head _ _ (head_of ho (by simp only [aop, apure, aread, aeff, hd, if_true, anew])) hn k
  · simp at hl
end Go.AM
