/-
  THE ABSTRACT EXECUTOR: a region that draws its order comes, in whatever order, to what the text's order comes to.
-/
import Derived.Test.YtknpjlcgjlnfbaaGreatDoorAm11
set_option linter.unusedSimpArgs false
set_option linter.unusedVariables false
namespace Go.AM
variable {P : Program} {G : Nat}

mutual
theorem same_eq {a b : Value} (h : same a b = true) : a = b := by
  cases a <;> cases b <;> simp only [same, Bool.and_eq_true, beq_iff_eq, Bool.false_eq_true] at h
  · rw [h]
  · obtain ⟨rfl, rfl⟩ := h; rfl
  · obtain ⟨rfl, rfl⟩ := h; rfl
  · obtain ⟨⟨rfl, rfl⟩, rfl⟩ := h; rfl
  · rename_i s t
    cases s; cases t; simp only [Value.string.injEq, ByteArray.mk.injEq]; exact Array.toList_inj.1 h
  · rw [h]
  · obtain ⟨⟨rfl, rfl⟩, rfl⟩ := h; rfl
  · rw [h]
  · rw [h]
  · obtain ⟨⟨rfl, h1⟩, h2⟩ := h
    rw [sameA_eq h1, sameA_eq h2]
  · rfl
  · obtain ⟨rfl, h1⟩ := h
    rw [same_eq h1]
  · rfl
  · rw [sameA_eq h]
  · rw [sameA_eq h]
theorem sameA_eq {a b : Array Value} (h : sameA a b = true) : a = b := by
  cases a; cases b; simp only [sameA] at h; rw [sameL_eq h]
theorem sameL_eq {a b : List Value} (h : sameL a b = true) : a = b := by
  cases a <;> cases b <;> simp only [sameL, Bool.and_eq_true, Bool.false_eq_true] at h
  · rfl
  · rw [same_eq h.1, sameL_eq h.2]
end
mutual
theorem same_refl (a : Value) : same a a = true := by
  cases a <;> simp only [same, Bool.and_eq_true, beq_self_eq_true, and_self, true_and]
  · exact ⟨sameA_refl _, sameA_refl _⟩
  · exact same_refl _
  · exact sameA_refl _
  · exact sameA_refl _
theorem sameA_refl (a : Array Value) : sameA a a = true := by
  cases a; simp only [sameA]; exact sameL_refl _
theorem sameL_refl (a : List Value) : sameL a a = true := by
  cases a <;> simp only [sameL, Bool.and_eq_true]
  exact ⟨same_refl _, sameL_refl _⟩
end

/-! ### What must come before -/
theorem foldl_bits (acc : List Nat) (j : Nat) : ∀ (es : List Edge) (s : Nat), (es.foldl (fun s e => if Region.binds .any e then s ||| 2 ^ e.on ||| acc.getD e.on 0 else s) s).testBit j = true →
    s.testBit j = true ∨ ∃ e ∈ es, Region.binds .any e = true ∧ (j = e.on ∨ (acc.getD e.on 0).testBit j = true) := by
  intro es
  induction es with
  | nil => intro s h; exact Or.inl h
  | cons e es ih =>
    intro s h
    simp only [List.foldl_cons] at h
    rcases ih _ h with h | ⟨e', he, h1, h2⟩
    · split at h
      · rename_i hb
        simp only [Nat.testBit_or, Bool.or_eq_true] at h
        rcases h with (h | h) | h
        · exact Or.inl h
        · refine Or.inr ⟨e, by simp, hb, Or.inl ?_⟩
          rw [Nat.testBit_two_pow] at h
          simp at h; exact h.symm
        · exact Or.inr ⟨e, by simp, hb, Or.inr h⟩
      · exact Or.inl h
    · exact Or.inr ⟨e', by simp [he], h1, h2⟩

theorem befs_acc (j : Nat) : ∀ (l done : List Oper) (acc : List Nat), acc.length = done.length →
    (∀ i o, done[i]? = some o → (acc.getD i 0).testBit j = true → ∃ e ∈ o.after.toList, Region.binds .any e = true ∧ (j = e.on ∨ (acc.getD e.on 0).testBit j = true)) →
    (∀ i, i < acc.length → (befs l acc).getD i 0 = acc.getD i 0) ∧
    (∀ i o, (done ++ l)[i]? = some o → ((befs l acc).getD i 0).testBit j = true → ∃ e ∈ o.after.toList, Region.binds .any e = true ∧ (j = e.on ∨ ((befs l acc).getD e.on 0).testBit j = true)) := by
  intro l
  induction l with
  | nil => intro done acc hl h; exact ⟨fun i _ => rfl, by simpa [befs] using h⟩
  | cons o l ih =>
    intro done acc hl h
    simp only [befs]
    let row := o.after.toList.foldl (fun s e => if Region.binds .any e then s ||| 2 ^ e.on ||| acc.getD e.on 0 else s) 0
    have hget : ∀ i, i < acc.length → (acc ++ [row]).getD i 0 = acc.getD i 0 := by
      intro i hi; simp [List.getD_eq_getElem?_getD, List.getElem?_append_left hi]
    obtain ⟨k1, k2⟩ := ih (done ++ [o]) (acc ++ [row]) (by simp [hl]) (by
      intro i q hi hb
      rw [List.getElem?_append] at hi
      split at hi
      · rename_i hlt
        rw [hget i (by omega)] at hb
        obtain ⟨e, he, h1, h2⟩ := h i q hi hb
        refine ⟨e, he, h1, h2.imp id (fun h2 => ?_)⟩
        rcases Nat.lt_or_ge e.on acc.length with hlt2 | hge
        · rw [hget _ hlt2]; exact h2
        · rw [List.getD_eq_getElem?_getD, List.getElem?_eq_none hge] at h2; simp at h2
      · rename_i hge
        have hi0 : i - done.length = 0 := by
          rcases Nat.eq_zero_or_pos (i - done.length) with e | e
          · exact e
          · rw [List.getElem?_eq_none (by simp; omega)] at hi; simp at hi
        rw [hi0] at hi
        simp at hi; subst hi
        have hieq : i = acc.length := by omega
        subst hieq
        simp only [List.getD_eq_getElem?_getD, List.getElem?_append_right (Nat.le_refl _), Nat.sub_self, List.getElem?_cons_zero, Option.getD_some] at hb
        rcases foldl_bits acc j _ 0 hb with h0 | ⟨e, he, h1, h2⟩
        · simp at h0
        · refine ⟨e, he, h1, h2.imp id (fun h2 => ?_)⟩
          rcases Nat.lt_or_ge e.on acc.length with hlt2 | hge2
          · rw [hget _ hlt2]; exact h2
          · rw [List.getD_eq_getElem?_getD, List.getElem?_eq_none hge2] at h2; simp at h2)
    refine ⟨fun i hi => ?_, ?_⟩
    · rw [k1 i (by simp; omega)]; exact hget i hi
    · intro i q hi hb
      exact k2 i q (by simpa using hi) hb

theorem befs_spec (l : List Oper) (j i : Nat) (o : Oper) (hi : l[i]? = some o) (hb : ((befs l []).getD i 0).testBit j = true) :
    ∃ e ∈ o.after.toList, Region.binds .any e = true ∧ (j = e.on ∨ ((befs l []).getD e.on 0).testBit j = true) :=
  (befs_acc j l [] [] rfl (fun i o h => by simp at h)).2 i o (by simpa using hi) hb

/-- The static look's parts. -/
structure DrawOK (P : Program) (ops : List Oper) : Prop where
  on : ∀ i o, ops[i]? = some o → ∀ e ∈ o.after.toList, Region.binds .any e = true → e.on < i
  slot : ∀ i o j q d, ops[i]? = some o → ops[j]? = some q → j ≠ i → q.dst = some d → d ∈ looksAt ops o → apartOf (befs ops []) i j = true
  eff : ∀ i o j q, ops[i]? = some o → ops[j]? = some q → j ≠ i → kindOf P o.op = 2 → kindOf P q.op = 2 → apartOf (befs ops []) i j = true ∨ (j < i ∧ isAl o.op = true) ∨ (i < j ∧ isAl q.op = true)
  dep : ∀ i o, ops[i]? = some o → isAl o.op = true → (∀ j q, j < i → ops[j]? = some q → kindOf P q.op = 2 → ((befs ops []).getD i 0).testBit j = true) ∨
    ∀ k, k < ops.length → ((befs ops []).getD k 0).testBit i = true → ∀ j q, j < i → ops[j]? = some q → kindOf P q.op = 2 → ((befs ops []).getD k 0).testBit j = true

theorem effsIn_spec {l : List Oper} {b : Nat} : ∀ {n : Nat}, effsIn P l b n = true → ∀ j q, j < n → l[j]? = some q → kindOf P q.op = 2 → b.testBit j = true := by
  intro n
  induction n with
  | zero => intro _ j q hj; omega
  | succ n ih =>
    intro h j q hj hq hk
    simp only [effsIn, Bool.and_eq_true] at h
    by_cases e : j = n
    · subst e
      have h2 := h.2
      rw [hq] at h2
      simpa [hk] using h2
    · exact ih h.1 j q (by omega) hq hk
theorem drawOK_spec {ops : Array Oper} (h : drawOK P ops = true) : DrawOK P ops.toList := by
  unfold drawOK at h
  have key : ∀ i o, ops.toList[i]? = some o → ((o.after.toList.all fun e => !Region.binds .any e || decide (e.on < i)) = true ∧
      (∀ j q, ops.toList[j]? = some q → (j == i || ((match q.dst with | some d => !(looksAt ops.toList o).contains d || apartOf (befs ops.toList []) i j | none => true) && (!(kindOf P o.op == 2 && kindOf P q.op == 2) || apartOf (befs ops.toList []) i j || (if j < i then isAl o.op else isAl q.op)))) = true) ∧
      (!isAl o.op || effsIn P ops.toList ((befs ops.toList []).getD i 0) i || (List.range ops.toList.length).all fun k => !((befs ops.toList []).getD k 0).testBit i || effsIn P ops.toList ((befs ops.toList []).getD k 0) i) = true) := by
    intro i o hi
    have hil : i < ops.toList.length := by
      rcases Nat.lt_or_ge i ops.toList.length with e | e
      · exact e
      · rw [List.getElem?_eq_none e] at hi; simp at hi
    have := List.all_eq_true.1 h i (List.mem_range.2 hil)
    rw [hi] at this
    simp only [Bool.and_eq_true] at this
    refine ⟨this.1.1, fun j q hj => ?_, this.2⟩
    have hjl : j < ops.toList.length := by
      rcases Nat.lt_or_ge j ops.toList.length with e | e
      · exact e
      · rw [List.getElem?_eq_none e] at hj; simp at hj
    have := List.all_eq_true.1 this.1.2 j (List.mem_range.2 hjl)
    rw [hj] at this
    exact this
  refine ⟨?_, ?_, ?_, ?_⟩
  · intro i o hi e he hb
    have := List.all_eq_true.1 (key i o hi).1 e he
    simp [hb] at this
    exact this
  · intro i o j q d hi hj hne hd hl
    have := (key i o hi).2.1 j q hj
    rw [hd] at this
    simp only [Bool.or_eq_true, Bool.and_eq_true, beq_iff_eq, Bool.not_eq_true', List.contains_eq_mem, decide_eq_false_iff_not] at this
    rcases this with h | ⟨h | h, _⟩
    · exact absurd h hne
    · exact absurd hl h
    · exact h
  · intro i o j q hi hj hne h1 h2
    have := (key i o hi).2.1 j q hj
    simp only [Bool.or_eq_true, Bool.and_eq_true, beq_iff_eq, h1, h2, BEq.rfl, Bool.and_self, Bool.not_true, Bool.false_eq_true, false_or] at this
    rcases this with h | ⟨_, h | h⟩
    · exact absurd h hne
    · exact Or.inl h
    · right
      split at h
      · rename_i hlt; exact Or.inl ⟨hlt, h⟩
      · exact Or.inr ⟨by omega, h⟩
  · intro i o hi hal
    have := (key i o hi).2.2
    rw [hal] at this
    simp only [Bool.not_true, Bool.false_or, Bool.or_eq_true] at this
    rcases this with h | h
    · exact Or.inl (effsIn_spec h)
    · right
      intro k hk hb
      have h2 := List.all_eq_true.1 h k (List.mem_range.2 hk)
      rw [hb] at h2
      simp only [Bool.not_true, Bool.false_or] at h2
      exact effsIn_spec h2

/-! ### The run in the text's order, told op by op -/
/-- What one operation does to slots and heap. -/
inductive StepAt (P : Program) (call : ACall) (ops : Array Oper) (j : Nat) (t : List Value) (h : AHeap) (v : Value) (h' : AHeap) : Prop
  | skip (o) (hi : ops[j]? = some o) (hw : Region.wanted o (ayielded ops t) = false) (hv : v = undef) (hh : h' = h)
  | pure (o) (hi : ops[j]? = some o) (hw : Region.wanted o (ayielded ops t) = true) (hk : kindOf P o.op = 0) (ha : apure P (aeval t) o.op = some v) (hh : h' = h)
  | read (o ty a) (hi : ops[j]? = some o) (hw : Region.wanted o (ayielded ops t) = true) (hk : kindOf P o.op = 1) (ho : o.op = .load ty a) (ha : aload P h ty (aeval t a) = some v) (hh : h' = h)
  | look (o) (hi : ops[j]? = some o) (hw : Region.wanted o (ayielded ops t) = true) (hk : kindOf P o.op = 1) (hn : ∀ ty a, o.op ≠ .load ty a) (ha : aread P (aeval t) h o.op = some v) (hfl : floats P ops j = []) (hh : h' = h)
  | eff (o) (hi : ops[j]? = some o) (hw : Region.wanted o (ayielded ops t) = true) (hk : kindOf P o.op = 2) (ha : aop P call (aeval t) h o.op = some (v, h'))

def dstOf (ops : Array Oper) (j : Nat) : Option Tmp := (ops[j]?).bind (·.dst)

structure Trace (P : Program) (call : ACall) (ops : Array Oper) (i n : Nat) (T : Nat → List Value) (Hh : Nat → AHeap) (V : Nat → Value) : Prop where
  step : ∀ j, i ≤ j → j < n → StepAt P call ops j (T j) (Hh j) (V j) (Hh (j + 1))
  next : ∀ j, i ≤ j → j < n → T (j + 1) = aput (T j) (dstOf ops j) (V j)
  old : ∀ j o ty a, i ≤ j → j < n → ops[j]? = some o → o.op = .load ty a → Region.wanted o (ayielded ops (T j)) = true →
    ∀ e q, i ≤ e → e < n → ops[e]? = some q → kindOf P q.op = 2 → Region.wanted q (ayielded ops (T e)) = true → e ∈ floats P ops j →
      (e < j → aload P (Hh e) ty (aeval (T j) a) = some (V j)) ∧ (j < e → aload P (Hh (e + 1)) ty (aeval (T j) a) = some (V j))

theorem kindOf_le (op : Op) : kindOf P op = 0 ∨ kindOf P op = 1 ∨ kindOf P op = 2 := by
  unfold kindOf
  split <;> (try (split)) <;> simp

theorem adraw_trace {call : ACall} {ops : Array Oper} : ∀ (m i : Nat) {s s' : St} {hs : List (Nat × AHeap)} {rs : List (Nat × TypeId × Value × Value)}, adraw P call ops (List.range' i m) s hs rs = some s' →
    ∃ (T : Nat → List Value) (Hh : Nat → AHeap) (V : Nat → Value), T i = s.t ∧ Hh i = s.h ∧ T (i + m) = s'.t ∧ Hh (i + m) = s'.h ∧ Trace P call ops i (i + m) T Hh V ∧
      (∀ j o ty a, i ≤ j → j < i + m → ops[j]? = some o → o.op = .load ty a → Region.wanted o (ayielded ops (T j)) = true → ∀ p ∈ hs, p.1 ∈ floats P ops j → aload P p.2 ty (aeval (T j) a) = some (V j)) ∧
      (∀ e q, i ≤ e → e < i + m → ops[e]? = some q → kindOf P q.op = 2 → Region.wanted q (ayielded ops (T e)) = true → ∀ p ∈ rs, e ∈ floats P ops p.1 → aload P (Hh (e + 1)) p.2.1 p.2.2.1 = some p.2.2.2) := by
  intro m
  induction m with
  | zero =>
    intro i s s' hs rs h
    simp only [List.range'_zero, adraw, Option.some.injEq] at h; subst h
    exact ⟨fun _ => s.t, fun _ => s.h, fun _ => undef, rfl, rfl, rfl, rfl, ⟨fun j h1 h2 => by omega, fun j h1 h2 => by omega, fun j _ _ _ h1 h2 => by omega⟩, fun j _ _ _ h1 h2 => by omega, fun j _ h1 h2 => by omega⟩
  | succ m ih =>
    intro i s s' hs rs h
    simp only [List.range'_succ, adraw] at h
    -- how the rest and the first are put together
    have glue : ∀ {v : Value} {h1 : AHeap} {hs1 : List (Nat × AHeap)} {rs1 : List (Nat × TypeId × Value × Value)} (o : Oper), ops[i]? = some o → StepAt P call ops i s.t s.h v h1 →
        (∀ p ∈ hs, p ∈ hs1) → (∀ p ∈ rs, p ∈ rs1) →
        (kindOf P o.op = 2 → Region.wanted o (ayielded ops s.t) = true → (i, s.h) ∈ hs1 ∧ ∀ p ∈ rs, i ∈ floats P ops p.1 → aload P h1 p.2.1 p.2.2.1 = some p.2.2.2) →
        (∀ ty a, o.op = .load ty a → Region.wanted o (ayielded ops s.t) = true → (∀ e, e ∈ floats P ops i → (i, ty, aeval s.t a, v) ∈ rs1) ∧ ∀ p ∈ hs, p.1 ∈ floats P ops i → aload P p.2 ty (aeval s.t a) = some v) →
        adraw P call ops (List.range' (i + 1) m) ⟨aput s.t o.dst v, h1⟩ hs1 rs1 = some s' →
        ∃ (T : Nat → List Value) (Hh : Nat → AHeap) (V : Nat → Value), T i = s.t ∧ Hh i = s.h ∧ T (i + (m + 1)) = s'.t ∧ Hh (i + (m + 1)) = s'.h ∧ Trace P call ops i (i + (m + 1)) T Hh V ∧
          (∀ j o ty a, i ≤ j → j < i + (m + 1) → ops[j]? = some o → o.op = .load ty a → Region.wanted o (ayielded ops (T j)) = true → ∀ p ∈ hs, p.1 ∈ floats P ops j → aload P p.2 ty (aeval (T j) a) = some (V j)) ∧
          (∀ e q, i ≤ e → e < i + (m + 1) → ops[e]? = some q → kindOf P q.op = 2 → Region.wanted q (ayielded ops (T e)) = true → ∀ p ∈ rs, e ∈ floats P ops p.1 → aload P (Hh (e + 1)) p.2.1 p.2.2.1 = some p.2.2.2) := by
      intro v h1 hs1 rs1 o ho hstep hhs hrs heff hread hrest
      obtain ⟨T, Hh, V, t1, t2, t3, t4, tr, ta, tb⟩ := ih (i + 1) hrest
      have eT : ∀ j, i < j → (fun j => if j = i then s.t else T j) j = T j := fun j hj => by simp; omega
      refine ⟨fun j => if j = i then s.t else T j, fun j => if j = i then s.h else Hh j, fun j => if j = i then v else V j, by simp, by simp, ?_, ?_, ⟨?_, ?_, ?_⟩, ?_, ?_⟩
      · simp only [show ¬ (i + (m + 1) = i) by omega, if_false]; rw [show i + (m + 1) = i + 1 + m by omega]; exact t3
      · simp only [show ¬ (i + (m + 1) = i) by omega, if_false]; rw [show i + (m + 1) = i + 1 + m by omega]; exact t4
      · intro j h2 h3
        by_cases e : j = i
        · subst e; simp only [if_true, show ¬ (j + 1 = j) by omega, if_false]; rw [t2]; exact hstep
        · simp only [if_neg e, show ¬ (j + 1 = i) by omega, if_false]; exact tr.step j (by omega) (by omega)
      · intro j h2 h3
        by_cases e : j = i
        · subst e; simp only [if_true, show ¬ (j + 1 = j) by omega, if_false]; rw [t1]; simp [dstOf, ho]
        · simp only [if_neg e, show ¬ (j + 1 = i) by omega, if_false]; exact tr.next j (by omega) (by omega)
      · intro j o' ty a h2 h3 h4 h5 h6 e q g1 g2 g3 g4 g5 g6
        by_cases ej : j = i
        · subst ej
          rw [ho] at h4; simp only [Option.some.injEq] at h4; subst h4
          simp only [if_true] at h6 ⊢
          refine ⟨fun hlt => by omega, fun hlt => ?_⟩
          simp only [show ¬ (e = j) by omega, show ¬ (e + 1 = j) by omega, if_false] at g5 ⊢
          exact tb e q (by omega) (by omega) g3 g4 g5 _ ((hread ty a h5 h6).1 e g6) g6
        · simp only [if_neg ej] at h6 ⊢
          by_cases ee : e = i
          · subst ee
            simp only [if_true] at g5 ⊢
            rw [ho] at g3; simp only [Option.some.injEq] at g3; subst g3
            refine ⟨fun _ => ?_, fun hlt => by omega⟩
            exact ta j o' ty a (by omega) (by omega) h4 h5 h6 _ (heff g4 g5).1 g6
          · simp only [if_neg ee, show ¬ (e + 1 = i) by omega, if_false] at g5 ⊢
            exact tr.old j o' ty a (by omega) (by omega) h4 h5 h6 e q (by omega) (by omega) g3 g4 g5 g6
      · intro j o' ty a h2 h3 h4 h5 h6 p hp hf
        by_cases ej : j = i
        · subst ej
          rw [ho] at h4; simp only [Option.some.injEq] at h4; subst h4
          simp only [if_true] at h6 ⊢
          exact (hread ty a h5 h6).2 p hp hf
        · simp only [if_neg ej] at h6 ⊢
          exact ta j o' ty a (by omega) (by omega) h4 h5 h6 p (hhs p hp) hf
      · intro e q g1 g2 g3 g4 g5 p hp hf
        by_cases ee : e = i
        · subst ee
          rw [ho] at g3; simp only [Option.some.injEq] at g3; subst g3
          simp only [if_true, show ¬ (e + 1 = e) by omega, if_false] at g5 ⊢
          rw [t2]; exact (heff g4 g5).2 p hp hf
        · simp only [if_neg ee, show ¬ (e + 1 = i) by omega, if_false] at g5 ⊢
          exact tb e q (by omega) (by omega) g3 g4 g5 p (hrs p hp) hf
    split at h
    · simp at h
    · rename_i o ho
      split at h
      · rename_i hw
        split at h
        · rename_i hk
          split at h
          · rename_i v ha
            exact glue o ho (.pure o ho hw hk ha rfl) (fun p hp => hp) (fun p hp => hp) (fun e => by omega) (fun ty a e => by rw [e] at hk; simp [kindOf] at hk) h
          · simp at h
        · rename_i hk
          split at h
          · rename_i ty a hop
            split at h
            · rename_i v ha
              split at h
              · rename_i hall
                refine glue o ho (.read o ty a ho hw hk hop ha rfl) (fun p hp => hp) ?_ (fun e => by omega) ?_ h
                · intro p hp; split
                  · exact hp
                  · exact List.mem_cons_of_mem _ hp
                · intro ty' a' e hw'
                  rw [hop] at e
                  simp only [Op.load.injEq] at e
                  obtain ⟨rfl, rfl⟩ := e
                  refine ⟨fun e he => ?_, fun p hp hf => ?_⟩
                  · rw [if_neg]
                    · exact List.mem_cons_self
                    · intro hemp; rw [List.isEmpty_iff] at hemp; rw [hemp] at he; simp at he
                  · have := List.all_eq_true.1 hall p hp
                    simp only [Bool.or_eq_true, Bool.not_eq_true', List.contains_eq_mem, decide_eq_false_iff_not] at this
                    rcases this with h1 | h1
                    · exact absurd hf h1
                    · split at h1
                      · rename_i v' hv'; rw [hv', same_eq h1]
                      · simp at h1
              · simp at h
            · simp at h
          · rename_i op hnl
            split at h
            · rename_i v ha
              split at h
              · rename_i hemp
                rw [List.isEmpty_iff] at hemp
                exact glue o ho (.look o ho hw hk hnl ha hemp rfl) (fun p hp => hp) (fun p hp => hp) (fun e => by omega) (fun ty a e => absurd e (hnl ty a)) h
              · simp at h
            · simp at h
        · rename_i hk0 hk1
          have hk2 : kindOf P o.op = 2 := by rcases kindOf_le (P := P) o.op with e | e | e <;> first | exact e | exact absurd e (by assumption)
          split at h
          · rename_i v h1 ha
            split at h
            · rename_i hall
              refine glue o ho (.eff o ho hw hk2 ha) (fun p hp => List.mem_cons_of_mem _ hp) (fun p hp => hp) (fun _ _ => ⟨List.mem_cons_self, fun p hp hf => ?_⟩) (fun ty a e => by rw [e] at hk2; simp [kindOf] at hk2) h
              have := List.all_eq_true.1 hall p hp
              simp only [Bool.or_eq_true, Bool.not_eq_true', List.contains_eq_mem, decide_eq_false_iff_not] at this
              rcases this with h1 | h1
              · exact absurd hf h1
              · split at h1
                · rename_i v' hv'; rw [hv', same_eq h1]
                · simp at h1
            · simp at h
          · simp at h
      · rename_i hw
        have hw' : Region.wanted o (ayielded ops s.t) = false := by simpa using hw
        exact glue o ho (.skip o ho hw' rfl rfl) (fun p hp => hp) (fun p hp => hp) (fun _ e => by rw [hw'] at e; simp at e) (fun ty a _ e => by rw [hw'] at e; simp at e) h
end Go.AM
