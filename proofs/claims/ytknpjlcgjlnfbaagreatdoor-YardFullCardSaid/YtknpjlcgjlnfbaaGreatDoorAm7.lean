/-
  THE ABSTRACT EXECUTOR: memory: what is laid, changed, read and written.
-/
import Derived.Test.YtknpjlcgjlnfbaaGreatDoorAm6
set_option linter.unusedSimpArgs false
set_option linter.unusedVariables false
namespace Go.AM
variable {P : Program} {ρ : Rho} {G : Nat} {h : AHeap} {w : World}

def upd (ρ : Rho) (b : Nat) (p : Pl) : Rho := fun i => if i = b then some p else ρ i
theorem upd_same (ρ : Rho) (b : Nat) (p : Pl) : upd ρ b p b = some p := by simp [upd]
theorem upd_ne {ρ : Rho} {b i : Nat} (p : Pl) (h : i ≠ b) : upd ρ b p i = ρ i := by simp [upd, h]
theorem HRel.updLe (H : HRel G ρ h w) (p : Pl) : RhoLe ρ (upd ρ h.length p) := by
  intro b q hq
  have := H.bd b q hq
  rw [upd_ne _ (by omega)]; exact hq

theorem get_append_old {h : AHeap} {o : AObj} {b : Nat} (hb : b < h.length) : (h ++ [o])[b]? = h[b]? := by
  rw [List.getElem?_append_left hb]
theorem get_append {h : AHeap} {o x : AObj} {b : Nat} (hx : (h ++ [o])[b]? = some x) : (b < h.length ∧ h[b]? = some x) ∨ (b = h.length ∧ x = o) := by
  rw [List.getElem?_append] at hx
  split at hx
  · rename_i hl; exact Or.inl ⟨hl, hx⟩
  · rename_i hl
    right
    have : b - h.length = 0 := by
      rcases Nat.eq_zero_or_pos (b - h.length) with e | e
      · exact e
      · rw [List.getElem?_eq_none (by simp; omega)] at hx; simp at hx
    rw [this] at hx
    simp at hx
    exact ⟨by omega, hx.symm⟩

theorem heap_push_old (w : World) (o : Obj) {c : Nat} (hc : c < w.heap.size) : (w.alloc o).heap[c]? = w.heap[c]? := by
  show (w.heap.push o)[c]? = _
  rw [Array.getElem?_push, if_neg (by omega)]
theorem heap_push_new (w : World) (o : Obj) : (w.alloc o).heap[w.heap.size]? = some o := by
  show (w.heap.push o)[w.heap.size]? = _
  simp

/-- A new object on both sides. -/
theorem HRel.alloc (H : HRel G ρ h w) {oc : Obj} {oa : AObj} {sh en : Nat} (hobj : ObjRel G (upd ρ h.length ⟨w.heap.size, sh, en⟩) (w.alloc oc) ⟨w.heap.size, sh, en⟩ oa) :
    HRel G (upd ρ h.length ⟨w.heap.size, sh, en⟩) (h ++ [oa]) (w.alloc oc) ∧ Fr ρ h w (upd ρ h.length ⟨w.heap.size, sh, en⟩) (h ++ [oa]) (w.alloc oc) := by
  have hle := H.updLe ⟨w.heap.size, sh, en⟩
  have hold : ∀ {b : Nat} {p : Pl}, b < h.length → upd ρ h.length ⟨w.heap.size, sh, en⟩ b = some p → ρ b = some p := by
    intro b p hb hp; rw [upd_ne _ (by omega)] at hp; exact hp
  refine ⟨⟨?_, ?_, ?_, ?_, ?_, ?_, ?_, ?_⟩, ⟨hle, by simp, rfl, rfl, rfl, ?_, ?_, ?_⟩⟩
  · intro b o hb ho
    rcases get_append hb with ⟨hl, hb⟩ | ⟨rfl, rfl⟩
    · obtain ⟨p, hp⟩ := H.dom b o hb ho; exact ⟨p, hle b p hp⟩
    · exact ⟨_, upd_same _ _ _⟩
  · intro b o p hb hp
    rcases get_append hb with ⟨hl, hb⟩ | ⟨rfl, rfl⟩
    · have hp' := hold hl hp
      exact (H.obj b o p hb hp').mono hle (fun _ => heap_push_old w oc (H.lt b p hp'))
    · rw [upd_same] at hp; simp only [Option.some.injEq] at hp; subst hp; exact hobj
  · intro b p hp
    by_cases hb : b = h.length
    · subst hb; rw [upd_same] at hp; simp only [Option.some.injEq] at hp; subst hp; simp
    · rw [upd_ne _ hb] at hp; have := H.lt b p hp; simp; omega
  · intro b p hp
    by_cases hb : b = h.length
    · subst hb; simp
    · rw [upd_ne _ hb] at hp; have := H.bd b p hp; simp; omega
  · intro b b' o o' p p' hne hb hb' hp hp' ho ho'
    rcases get_append hb with ⟨hl, hb⟩ | ⟨rfl, rfl⟩ <;> rcases get_append hb' with ⟨hl', hb'⟩ | ⟨rfl, rfl⟩
    · exact H.sep b b' o o' p p' hne hb hb' (hold hl hp) (hold hl' hp') ho ho'
    · rw [upd_same] at hp'; simp only [Option.some.injEq] at hp'; subst hp'
      have := H.lt b p (hold hl hp); simp; omega
    · rw [upd_same] at hp; simp only [Option.some.injEq] at hp; subst hp
      have := H.lt b' p' (hold hl' hp'); simp; omega
    · exact absurd rfl hne
  · intro g hg; obtain ⟨en, he⟩ := H.glob g hg; exact ⟨en, hle _ _ he⟩
  · intro b o p hb hp ho
    rcases get_append hb with ⟨hl, hb⟩ | ⟨rfl, rfl⟩
    · exact H.gown b o p hb (hold hl hp) ho
    · rw [upd_same] at hp; simp only [Option.some.injEq] at hp; subst hp; exact H.gsz
  · have := H.gsz; simp; omega
  · intro b o p hb ho hp hlt
    rcases get_append hb with ⟨hl, hb⟩ | ⟨rfl, rfl⟩
    · exact ⟨b, o, p, hb, ho, hold hl hp, rfl⟩
    · rw [upd_same] at hp; simp only [Option.some.injEq] at hp; subst hp; exact absurd hlt (Nat.lt_irrefl _)
  · intro b o p hb ho hp hlt
    rcases get_append hb with ⟨hl, hb⟩ | ⟨rfl, rfl⟩
    · exact ⟨b, o, p, hb, ho, hold hl hp, rfl⟩
    · rw [upd_same] at hp; simp only [Option.some.injEq] at hp; subst hp; exact absurd hlt (Nat.lt_irrefl _)
  · intro c hc _; exact heap_push_old w oc hc

theorem set_get {h : AHeap} {b i : Nat} {o x : AObj} (hb : b < h.length) (hx : (h.set b o)[i]? = some x) : (i ≠ b ∧ h[i]? = some x) ∨ (i = b ∧ x = o) := by
  by_cases e : i = b
  · subst e; rw [List.getElem?_set_self hb] at hx; simp at hx; exact Or.inr ⟨rfl, hx.symm⟩
  · rw [List.getElem?_set_ne (by omega)] at hx; exact Or.inl ⟨e, hx⟩

theorem lt_of_get {h : AHeap} {b : Nat} {o : AObj} (hb : h[b]? = some o) : b < h.length := by
  rcases Nat.lt_or_ge b h.length with e | e
  · exact e
  · rw [List.getElem?_eq_none e] at hb; simp at hb

/-- What is one's own is changed in place. -/
theorem HRel.update (H : HRel G ρ h w) {b : Nat} {oa oa' : AObj} {p : Pl} {w' : World} (hb : h[b]? = some oa) (hown : oa.own = true) (hp : ρ b = some p)
    (hsz : w'.heap.size = w.heap.size) (ht : w'.tape = w.tape) (hos : w'.os = w.os) (hout : w'.output = w.output)
    (hk : ∀ c, c ≠ p.blk → w'.heap[c]? = w.heap[c]?) (hown' : oa'.own = true) (hobj : ObjRel G ρ w' p oa') :
    HRel G ρ (h.set b oa') w' ∧ Fr ρ h w ρ (h.set b oa') w' := by
  have hbl := lt_of_get hb
  have hlive : ∀ {o : AObj}, o.own = true → o.live = true := by intro o ho; cases o <;> first | rfl | simp [AObj.own] at ho
  refine ⟨⟨?_, ?_, ?_, ?_, ?_, ?_, ?_, ?_⟩, ⟨.refl ρ, by omega, ht, hos, hout, ?_, ?_, ?_⟩⟩
  · intro i o hi ho
    rcases set_get hbl hi with ⟨_, hi⟩ | ⟨rfl, rfl⟩
    · exact H.dom i o hi ho
    · exact ⟨p, hp⟩
  · intro i o q hi hq
    rcases set_get hbl hi with ⟨hne, hi⟩ | ⟨rfl, rfl⟩
    · refine (H.obj i o q hi hq).mono (.refl ρ) (fun ho => hk _ ?_)
      exact fun e => H.sep b i oa o p q (fun e' => hne e'.symm) hb hi hp hq hown ho e.symm
    · rw [hp] at hq; simp only [Option.some.injEq] at hq; subst hq; exact hobj
  · intro i q hq; have := H.lt i q hq; omega
  · intro i q hq; have := H.bd i q hq; simpa using this
  · intro i j o o' q q' hne hi hj hq hq' ho ho'
    rcases set_get hbl hi with ⟨_, hi2⟩ | ⟨rfl, rfl⟩ <;> rcases set_get hbl hj with ⟨_, hj2⟩ | ⟨rfl, rfl⟩
    · exact H.sep i j o o' q q' hne hi2 hj2 hq hq' ho ho'
    · exact H.sep i _ o oa q q' hne hi2 hb hq hq' ho (hlive hown)
    · exact H.sep _ j oa o' q q' hne hb hj2 hq hq' hown ho'
    · exact absurd rfl hne
  · exact H.glob
  · intro i o q hi hq ho
    rcases set_get hbl hi with ⟨_, hi⟩ | ⟨rfl, rfl⟩
    · exact H.gown i o q hi hq ho
    · exact H.gown _ oa q hb hq hown
  · have := H.gsz; omega
  · intro i o q hi ho hq _
    rcases set_get hbl hi with ⟨_, hi⟩ | ⟨rfl, rfl⟩
    · exact ⟨i, o, q, hi, ho, hq, rfl⟩
    · exact ⟨_, oa, q, hb, hown, hq, rfl⟩
  · intro i o q hi ho hq _
    rcases set_get hbl hi with ⟨_, hi⟩ | ⟨rfl, rfl⟩
    · exact ⟨i, o, q, hi, ho, hq, rfl⟩
    · exact ⟨_, oa, q, hb, hlive hown, hq, rfl⟩
  · intro c hc hn; exact hk c (fun e => hn b oa p hb hown hp e.symm)

/-- A block is no longer spoken of. -/
theorem HRel.kill (H : HRel G ρ h w) {b : Nat} (hbl : b < h.length) : HRel G ρ (h.set b .dead) w ∧ Fr ρ h w ρ (h.set b .dead) w := by
  refine ⟨⟨?_, ?_, H.lt, ?_, ?_, H.glob, ?_, H.gsz⟩, ⟨.refl ρ, Nat.le_refl _, rfl, rfl, rfl, ?_, ?_, fun _ _ _ => rfl⟩⟩
  · intro i o hi ho
    rcases set_get hbl hi with ⟨_, hi⟩ | ⟨rfl, rfl⟩
    · exact H.dom i o hi ho
    · simp [AObj.live] at ho
  · intro i o q hi hq
    rcases set_get hbl hi with ⟨_, hi⟩ | ⟨rfl, rfl⟩
    · exact H.obj i o q hi hq
    · trivial
  · intro i q hq; have := H.bd i q hq; simpa using this
  · intro i j o o' q q' hne hi hj hq hq' ho ho'
    rcases set_get hbl hi with ⟨_, hi⟩ | ⟨rfl, rfl⟩
    · rcases set_get hbl hj with ⟨_, hj⟩ | ⟨rfl, rfl⟩
      · exact H.sep i j o o' q q' hne hi hj hq hq' ho ho'
      · simp [AObj.live] at ho'
    · simp [AObj.own] at ho
  · intro i o q hi hq ho
    rcases set_get hbl hi with ⟨_, hi⟩ | ⟨rfl, rfl⟩
    · exact H.gown i o q hi hq ho
    · simp [AObj.own] at ho
  · intro i o q hi ho hq _
    rcases set_get hbl hi with ⟨_, hi⟩ | ⟨rfl, rfl⟩
    · exact ⟨i, o, q, hi, ho, hq, rfl⟩
    · simp [AObj.own] at ho
  · intro i o q hi ho hq _
    rcases set_get hbl hi with ⟨_, hi⟩ | ⟨rfl, rfl⟩
    · exact ⟨i, o, q, hi, ho, hq, rfl⟩
    · simp [AObj.live] at ho

/-- A block of which nothing was told is told of. -/
theorem HRel.adopt (H : HRel G ρ h w) {p : Pl} {oa : AObj} (hlt : p.blk < w.heap.size) (hG : G ≤ p.blk) (hfree : ∀ (b : Nat) (o : AObj) (q : Pl), h[b]? = some o → o.live = true → ρ b = some q → q.blk ≠ p.blk)
    (hobj : ObjRel G (upd ρ h.length p) w p oa) : HRel G (upd ρ h.length p) (h ++ [oa]) w := by
  have hlive : ∀ {o : AObj}, o.own = true → o.live = true := by intro o ho; cases o <;> first | rfl | simp [AObj.own] at ho
  have hle := H.updLe p
  have hold : ∀ {b : Nat} {q : Pl}, b < h.length → upd ρ h.length p b = some q → ρ b = some q := by
    intro b q hb hp; rw [upd_ne _ (by omega)] at hp; exact hp
  refine ⟨?_, ?_, ?_, ?_, ?_, ?_, ?_, H.gsz⟩
  · intro b o hb ho
    rcases get_append hb with ⟨hl, hb⟩ | ⟨rfl, rfl⟩
    · obtain ⟨q, hq⟩ := H.dom b o hb ho; exact ⟨q, hle b q hq⟩
    · exact ⟨_, upd_same _ _ _⟩
  · intro b o q hb hp
    rcases get_append hb with ⟨hl, hb⟩ | ⟨rfl, rfl⟩
    · exact (H.obj b o q hb (hold hl hp)).mono hle (fun _ => rfl)
    · rw [upd_same] at hp; simp only [Option.some.injEq] at hp; subst hp; exact hobj
  · intro b q hp
    by_cases hb : b = h.length
    · subst hb; rw [upd_same] at hp; simp only [Option.some.injEq] at hp; subst hp; exact hlt
    · rw [upd_ne _ hb] at hp; exact H.lt b q hp
  · intro b q hp
    by_cases hb : b = h.length
    · subst hb; simp
    · rw [upd_ne _ hb] at hp; have := H.bd b q hp; simp; omega
  · intro b b' o o' q q' hne hb hb' hp hp' ho ho'
    rcases get_append hb with ⟨hl, hb2⟩ | ⟨rfl, rfl⟩ <;> rcases get_append hb' with ⟨hl', hb2'⟩ | ⟨rfl, rfl⟩
    · exact H.sep b b' o o' q q' hne hb2 hb2' (hold hl hp) (hold hl' hp') ho ho'
    · rw [upd_same] at hp'; simp only [Option.some.injEq] at hp'; subst hp'
      exact hfree b o q hb2 (hlive ho) (hold hl hp)
    · rw [upd_same] at hp; simp only [Option.some.injEq] at hp; subst hp
      exact fun e => hfree b' o' q' hb2' ho' (hold hl' hp') e.symm
    · exact absurd rfl hne
  · intro g hg; obtain ⟨en, he⟩ := H.glob g hg; exact ⟨en, hle _ _ he⟩
  · intro b o q hb hp ho
    rcases get_append hb with ⟨hl, hb⟩ | ⟨rfl, rfl⟩
    · exact H.gown b o q hb (hold hl hp) ho
    · rw [upd_same] at hp; simp only [Option.some.injEq] at hp; subst hp; exact hG

/-- A new name for a block whose old name is dropped; the block is changed. -/
theorem HRel.rename (H : HRel G ρ h w) {b : Nat} {oa oa' : AObj} {p p' : Pl} {w' : World} (hb : h[b]? = some oa) (hown : oa.own = true) (hp : ρ b = some p) (hpp : p'.blk = p.blk)
    (hsz : w'.heap.size = w.heap.size) (ht : w'.tape = w.tape) (hos : w'.os = w.os) (hout : w'.output = w.output)
    (hk : ∀ c, c ≠ p.blk → w'.heap[c]? = w.heap[c]?) (hown' : oa'.own = true) (hobj : ObjRel G (upd ρ h.length p') w' p' oa') :
    HRel G (upd ρ h.length p') (h.set b .dead ++ [oa']) w' ∧ Fr ρ h w (upd ρ h.length p') (h.set b .dead ++ [oa']) w' := by
  have hbl := lt_of_get hb
  have hlive : ∀ {o : AObj}, o.own = true → o.live = true := by intro o ho; cases o <;> first | rfl | simp [AObj.own] at ho
  have hle := H.updLe p'
  have hlen : (h.set b .dead).length = h.length := by simp
  have hold : ∀ {i : Nat} {q : Pl}, i < h.length → upd ρ h.length p' i = some q → ρ i = some q := by
    intro i q hi hq; rw [upd_ne _ (by omega)] at hq; exact hq
  have look : ∀ {i : Nat} {o : AObj}, (h.set b .dead ++ [oa'])[i]? = some o → (i < h.length ∧ i ≠ b ∧ h[i]? = some o) ∨ (i = b ∧ o = .dead) ∨ (i = h.length ∧ o = oa') := by
    intro i o hi
    rcases get_append hi with ⟨hl, hi⟩ | ⟨e, rfl⟩
    · rcases set_get hbl hi with ⟨hne, hi⟩ | ⟨rfl, rfl⟩
      · exact Or.inl ⟨by simpa using hl, hne, hi⟩
      · exact Or.inr (Or.inl ⟨rfl, rfl⟩)
    · exact Or.inr (Or.inr ⟨by simpa using e, rfl⟩)
  refine ⟨⟨?_, ?_, ?_, ?_, ?_, ?_, ?_, ?_⟩, ⟨hle, by omega, ht, hos, hout, ?_, ?_, ?_⟩⟩
  · intro i o hi ho
    rcases look hi with ⟨_, _, hi⟩ | ⟨rfl, rfl⟩ | ⟨rfl, rfl⟩
    · obtain ⟨q, hq⟩ := H.dom i o hi ho; exact ⟨q, hle _ _ hq⟩
    · simp [AObj.live] at ho
    · exact ⟨_, upd_same _ _ _⟩
  · intro i o q hi hq
    rcases look hi with ⟨hl, hne, hi⟩ | ⟨rfl, rfl⟩ | ⟨rfl, rfl⟩
    · have hq' := hold hl hq
      refine (H.obj i o q hi hq').mono hle (fun ho => hk _ ?_)
      exact fun e => H.sep b i oa o p q (fun e' => hne e'.symm) hb hi hp hq' hown ho e.symm
    · trivial
    · rw [upd_same] at hq; simp only [Option.some.injEq] at hq; subst hq; exact hobj
  · intro i q hq
    by_cases e : i = h.length
    · subst e; rw [upd_same] at hq; simp only [Option.some.injEq] at hq; subst hq; have := H.lt b p hp; omega
    · rw [upd_ne _ e] at hq; have := H.lt i q hq; omega
  · intro i q hq
    by_cases e : i = h.length
    · subst e; simp
    · rw [upd_ne _ e] at hq; have := H.bd i q hq; simp; omega
  · intro i j o o' q q' hne hi hj hq hq' ho ho'
    rcases look hi with ⟨hl, hn, hi2⟩ | ⟨rfl, rfl⟩ | ⟨rfl, rfl⟩
    · rcases look hj with ⟨hl', hn', hj2⟩ | ⟨rfl, rfl⟩ | ⟨rfl, rfl⟩
      · exact H.sep i j o o' q q' hne hi2 hj2 (hold hl hq) (hold hl' hq') ho ho'
      · simp [AObj.live] at ho'
      · rw [upd_same] at hq'; simp only [Option.some.injEq] at hq'; subst hq'
        rw [hpp]
        exact H.sep i b o oa q p hn hi2 hb (hold hl hq) hp ho (hlive hown)
    · simp [AObj.own] at ho
    · rw [upd_same] at hq; simp only [Option.some.injEq] at hq; subst hq
      rcases look hj with ⟨hl', hn', hj2⟩ | ⟨rfl, rfl⟩ | ⟨rfl, rfl⟩
      · rw [hpp]; exact H.sep b j oa o' p q' (fun e => hn' e.symm) hb hj2 hp (hold hl' hq') hown ho'
      · simp [AObj.live] at ho'
      · exact absurd rfl hne
  · intro g hg; obtain ⟨en, he⟩ := H.glob g hg; exact ⟨en, hle _ _ he⟩
  · intro i o q hi hq ho
    rcases look hi with ⟨hl, hn, hi⟩ | ⟨rfl, rfl⟩ | ⟨rfl, rfl⟩
    · exact H.gown i o q hi (hold hl hq) ho
    · simp [AObj.own] at ho
    · rw [upd_same] at hq; simp only [Option.some.injEq] at hq; subst hq; rw [hpp]; exact H.gown b oa p hb hp hown
  · have := H.gsz; omega
  · intro i o q hi ho hq _
    rcases look hi with ⟨hl, hn, hi⟩ | ⟨rfl, rfl⟩ | ⟨rfl, rfl⟩
    · exact ⟨i, o, q, hi, ho, hold hl hq, rfl⟩
    · simp [AObj.own] at ho
    · rw [upd_same] at hq; simp only [Option.some.injEq] at hq; subst hq; exact ⟨b, oa, p, hb, hown, hp, hpp.symm⟩
  · intro i o q hi ho hq _
    rcases look hi with ⟨hl, hn, hi⟩ | ⟨rfl, rfl⟩ | ⟨rfl, rfl⟩
    · exact ⟨i, o, q, hi, ho, hold hl hq, rfl⟩
    · simp [AObj.live] at ho
    · rw [upd_same] at hq; simp only [Option.some.injEq] at hq; subst hq; exact ⟨b, oa, p, hb, hlive hown, hp, hpp.symm⟩
  · intro c hc hn; exact hk c (fun e => hn b oa p hb hown hp e.symm)

/-! ### Reading -/
theorem add_eq (b o i : Nat) : Addr.add ⟨b, o, none⟩ i = ⟨b, o + i, none⟩ := by
  unfold Addr.add; split
  · rename_i e; subst e; rfl
  · rfl

theorem run_loadCellsFrom (b o : Nat) (vs : List Value) : ∀ (i : Nat) (acc : Array Value), (∀ (j : Nat) (v : Value), vs[j]? = some v → w.cell? ⟨b, o + (i + j), none⟩ = some v) →
    (loadCellsFrom ⟨b, o, none⟩ i vs.length acc).run P w = .ok (acc ++ vs.toArray) w := by
  induction vs with
  | nil => intro i acc _; simp [loadCellsFrom]
  | cons v vs ih =>
    intro i acc hc
    have h0 := hc 0 v rfl
    simp only [List.length_cons, loadCellsFrom, Sem.run_bind, run_load, add_eq]
    rw [show o + (i + 0) = o + i by omega] at h0
    rw [h0]
    simp only [Result.andThen_ok]
    rw [ih (i + 1) (acc.push v) (fun j u hj => by rw [show o + (i + 1 + j) = o + (i + (j + 1)) by omega]; exact hc (j + 1) u (by simpa using hj))]
    simp
theorem run_loadCells (b o : Nat) (vs : List Value) (hc : ∀ (j : Nat) (v : Value), vs[j]? = some v → w.cell? ⟨b, o + j, none⟩ = some v) :
    (loadCells ⟨b, o, none⟩ vs.length).run P w = .ok vs.toArray w := by
  have := run_loadCellsFrom (P := P) b o vs 0 #[] (fun j v hj => by simpa using hc j v hj)
  simpa [loadCells] using this

theorem cell_of {w : World} {b : Nat} {c : Array Value} {t : TypeId} {fz : Nat × Nat} (hb : w.heap[b]? = some (.cells c t fz)) (i : Nat) : w.cell? ⟨b, i, none⟩ = c[i]? := by
  simp [World.cell?, hb]

theorem cells?_spec {h : AHeap} {b : Nat} {cs : List Value} (hc : cells? h b = some cs) : ∃ own, h[b]? = some (.row cs own) := by
  unfold cells? at hc
  split at hc
  · rename_i cs' own hb; simp only [Option.some.injEq] at hc; subst hc; exact ⟨own, hb⟩
  · simp at hc

/-- What the abstract heap reads, the world reads. -/
theorem loadN_sound (H : HRel G ρ h w) {b o n : Nat} {cs : List Value} {p : Pl} (hp : ρ b = some p) (hl : loadN h b o n = some cs) :
    ∃ cs', (loadCells ⟨p.blk, p.sh + o, none⟩ n).run P w = .ok cs'.toArray w ∧ LRel ρ cs cs' ∧ cs.length = n ∧ (∀ (j : Nat) (v : Value), cs'[j]? = some v → w.cell? ⟨p.blk, p.sh + o + j, none⟩ = some v) := by
  unfold loadN at hl
  split at hl
  · rename_i rs hrs
    split at hl
    · rename_i hle
      simp only [Option.some.injEq] at hl; subst hl
      obtain ⟨own, hb⟩ := cells?_spec hrs
      obtain ⟨c, t, fz, h1, h2, h3, h4, h5⟩ := H.obj b _ p hb hp
      have hlen : ((rs.drop o).take n).length = n := by simp; omega
      let cs' := ((c.toList.drop (p.sh + o)).take n)
      have hlen' : cs'.length = n := by simp [cs']; omega
      have hcell : ∀ (j : Nat) (v : Value), cs'[j]? = some v → w.cell? ⟨p.blk, p.sh + o + j, none⟩ = some v := by
        intro j v hj
        rw [cell_of h1]
        simp only [cs', List.getElem?_take, List.getElem?_drop] at hj
        split at hj
        · simpa using hj
        · simp at hj
      refine ⟨cs', ?_, ?_, hlen, hcell⟩
      · have := run_loadCells (P := P) (w := w) p.blk (p.sh + o) cs' hcell
        rw [hlen'] at this; exact this
      · refine .of_get (by omega) (fun i hi hi' => ?_)
        have hin : i < n := by omega
        have hrv : rs[o + i]? = some ((rs.drop o).take n)[i] := by simp
        obtain ⟨v', hv', hrel⟩ := h3 (o + i) _ hrv
        have : cs'[i]? = some v' := by
          simp only [cs', List.getElem?_take, List.getElem?_drop, if_pos hin, Array.getElem?_toList]
          rw [show p.sh + o + i = p.sh + (o + i) by omega]; exact hv'
        rw [List.getElem?_eq_getElem hi'] at this
        simp only [Option.some.injEq] at this
        rw [this]; exact hrel
    · simp at hl
  · simp at hl

theorem load1_sound (H : HRel G ρ h w) {b o : Nat} {v : Value} {p : Pl} (hp : ρ b = some p) (hl : load1 h b o = some v) :
    ∃ v', w.cell? ⟨p.blk, p.sh + o, none⟩ = some v' ∧ VRel ρ v v' := by
  unfold load1 at hl
  split at hl
  · rename_i rs hrs
    obtain ⟨own, hb⟩ := cells?_spec hrs
    obtain ⟨c, t, fz, h1, h2, h3, h4, h5⟩ := H.obj b _ p hb hp
    obtain ⟨v', hv', hrel⟩ := h3 o v hl
    exact ⟨v', by rw [cell_of h1]; exact hv', hrel⟩
  · simp at hl

theorem aload_sound (H : HRel G ρ h w) {t : TypeId} {a a' v : Value} (ha : VRel ρ a a') (hl : aload P h t a = some v) :
    ∃ v', (Instr.loadAt t a').run P w = .ok v' w ∧ (∃ x, a' = .pointer (some x) ∧ (loadVar t x).run P w = .ok v' w) ∧ VRel ρ v v' := by
  unfold aload at hl
  split at hl
  · rename_i b o i hi
    cases ha with
    | ptr hp =>
      rename_i p
      split at hl
      · rename_i hagg
        split at hl
        · rename_i cs hcs
          simp only [Option.some.injEq] at hl; subst hl
          obtain ⟨cs', h1, h2, _, _⟩ := loadN_sound (P := P) H hp hcs
          have hr : (loadVar t ⟨p.blk, p.sh + o, none⟩).run P w = .ok (.agg cs'.toArray) w := by
            simp [loadVar, run_isAgg hi, hagg, run_size hi, h1]
          exact ⟨.agg cs'.toArray, by simp [Instr.loadAt, Instr.sureAddr, hr], ⟨_, rfl, hr⟩, h2.agg⟩
        · simp at hl
      · rename_i hagg
        obtain ⟨v', h1, h2⟩ := load1_sound H hp hl
        have hr : (loadVar t ⟨p.blk, p.sh + o, none⟩).run P w = .ok v' w := by
          simp [loadVar, run_isAgg hi, hagg, h1]
        exact ⟨v', by simp [Instr.loadAt, Instr.sureAddr, hr], ⟨_, rfl, hr⟩, h2⟩
  · simp at hl

/-! ### Writing -/
theorem run_storeCells {w : World} {b o : Nat} : ∀ (vs : List Value) (i : Nat) (w : World) (c : Array Value) (t : TypeId) (fz : Nat × Nat), w.heap[b]? = some (.cells c t fz) → o + i + vs.length ≤ c.size →
    (∀ j, o + i ≤ j → j < o + i + vs.length → ¬(fz.1 ≤ j ∧ j < fz.2)) → (∀ v ∈ vs, isCell v = true) →
    ∃ w', (storeCells ⟨b, o, none⟩ vs i).run P w = .ok () w' ∧ w'.heap[b]? = some (.cells (splice c.toList (o + i) vs).toArray t fz) ∧ (∀ k, k ≠ b → w'.heap[k]? = w.heap[k]?) ∧ w'.heap.size = w.heap.size ∧ w'.tape = w.tape ∧ w'.os = w.os ∧ w'.output = w.output := by
  intro vs
  induction vs with
  | nil =>
    intro i w c t fz hb hl hf hc
    refine ⟨w, rfl, ?_, fun _ _ => rfl, rfl, rfl, rfl, rfl⟩
    rw [hb]; simp [splice]
  | cons v vs ih =>
    intro i w c t fz hb hl hf hc
    simp only [List.length_cons] at hl hf
    have hcell : w.cell? ⟨b, o + i, none⟩ = some (c[o + i]'(by omega)) := by rw [cell_of hb]; simp
    have hfz : w.frozen? ⟨b, o + i, none⟩ = false := by
      have := hf (o + i) (by omega) (by omega)
      simp only [World.frozen?, hb]
      rw [Bool.eq_false_iff]
      simpa using this
    have hone : v.oneCell' = true := by have := hc v (by simp); cases v <;> first | rfl | simp [isCell] at this
    have hbl : b < w.heap.size := by
      rcases Nat.lt_or_ge b w.heap.size with e | e
      · exact e
      · rw [Array.getElem?_eq_none e] at hb; simp at hb
    let w1 := w.setCell ⟨b, o + i, none⟩ v
    have hb1 : w1.heap[b]? = some (.cells (c.setIfInBounds (o + i) v) t fz) := by
      simp only [w1, World.setCell, Array.getElem?_modify, if_true, hb, Option.map_some]
      simp
    obtain ⟨w', h1, h2, h3, h4, h5, h6, h7⟩ := ih (i + 1) w1 (c.setIfInBounds (o + i) v) t fz hb1 (by simp; omega) (fun j hj hj' => hf j (by omega) (by omega)) (fun u hu => hc u (by simp [hu]))
    refine ⟨w', ?_, ?_, ?_, ?_, h5, h6, h7⟩
    · simp only [storeCells, Sem.run_bind, add_eq, run_store P w _ v .plain hone, hcell, hfz]
      simpa using h1
    · rw [h2]
      congr 2
      apply Array.toList_inj.1
      simp only [Array.toList_setIfInBounds]
      apply List.ext_getElem?
      intro k
      rw [splice_get (by simp; omega), splice_get (by simp; omega)]
      simp only [List.length_cons]
      by_cases k1 : k < o + i
      · rw [if_pos (by omega), if_pos k1, List.getElem?_set_ne (by omega)]
      · by_cases k2 : k = o + i
        · subst k2
          rw [if_pos (by omega), if_neg (by omega), if_pos (by omega), List.getElem?_set_self (by simp; omega)]
          simp
        · rw [if_neg (by omega), if_neg k1]
          by_cases k3 : k < o + (i + 1) + vs.length
          · rw [if_pos k3, if_pos (by omega)]
            rw [show k - (o + i) = (k - (o + (i + 1))) + 1 by omega, List.getElem?_cons_succ]
          · rw [if_neg k3, if_neg (by omega), List.getElem?_set_ne (by omega)]
    · intro k hk
      rw [h3 k hk]
      simp only [w1, World.setCell, Array.getElem?_modify]
      rw [if_neg (fun e => hk e.symm)]
    · rw [h4]; simp [w1]

theorem storeN_sound (H : HRel G ρ h w) {b o : Nat} {vs vs' : List Value} {h' : AHeap} {p : Pl} (hp : ρ b = some p) (hv : LRel ρ vs vs') (hs : storeN h b o vs = some h') :
    ∃ w', (storeCells ⟨p.blk, p.sh + o, none⟩ vs').run P w = .ok () w' ∧ HRel G ρ h' w' ∧ Fr ρ h w ρ h' w' := by
  unfold storeN at hs
  split at hs
  · rename_i cs hb
    split at hs
    · rename_i hc
      simp only [Bool.and_eq_true, decide_eq_true_eq] at hc
      obtain ⟨hle, hcell⟩ := hc
      simp only [Option.some.injEq] at hs; subst hs
      obtain ⟨c, t, fz, h1, h2, h3, h4, h5⟩ := H.obj b _ p hb hp
      obtain ⟨h6, h7⟩ := h5 rfl
      have hl := hv.length
      have hcell' : ∀ v ∈ vs', isCell v = true := by
        intro v hvm
        obtain ⟨i, hi, rfl⟩ := List.getElem_of_mem hvm
        have hi' : i < vs.length := by omega
        obtain ⟨v', e1, e2⟩ := hv.get? (i := i) (v := vs[i]) (by simp)
        rw [List.getElem?_eq_getElem hi] at e1
        simp only [Option.some.injEq] at e1
        rw [e1, e2.isCell]
        exact List.all_eq_true.1 hcell _ (by simp)
      obtain ⟨w', r1, r2, r3, r4, r5, r6, r7⟩ := run_storeCells (P := P) (w := w) (b := p.blk) (o := p.sh + o) vs' 0 w c t fz h1 (by omega) (fun j hj hj' => h7 j (by omega) (by omega)) hcell'
      refine ⟨w', r1, H.update hb rfl hp r4 r5 r6 r7 r3 rfl ?_⟩
      refine ⟨_, t, fz, r2, ?_, ?_, ?_, fun _ => ⟨?_, h7⟩⟩
      · rw [splice_length hle]
        simp only [List.size_toArray]
        rw [splice_length (by simp; omega)]; simpa using h2
      · intro i v hi
        rw [splice_get hle] at hi
        simp only [List.getElem?_toArray, Nat.add_zero]
        rw [splice_get (by simp; omega)]
        by_cases k1 : i < o
        · rw [if_pos k1] at hi; rw [if_pos (by omega)]; simpa using h3 i v hi
        · rw [if_neg k1] at hi; rw [if_neg (by omega)]
          by_cases k2 : i < o + vs.length
          · rw [if_pos k2] at hi; rw [if_pos (by omega)]
            rw [show p.sh + i - (p.sh + o) = i - o by omega]
            exact hv.get? hi
          · rw [if_neg k2] at hi; rw [if_neg (by omega)]; simpa using h3 i v hi
      · rw [splice_length hle]; exact h4
      · simp only [List.size_toArray]; rw [splice_length (by simp; omega)]; simpa using h6
    · simp at hs
  · simp at hs
end Go.AM
