/-
  THE ABSTRACT EXECUTOR: a region that draws its order (2).
-/
import Derived.Test.YtknpjlcgjlnfbaaGreatDoorAm12
set_option linter.unusedSimpArgs false
set_option linter.unusedVariables false
namespace Go.AM
variable {P : Program} {G : Nat}

/-- The slots when the operations of S, in the text's order, are done. -/
def slotsOf (ops : Array Oper) (V : Nat → Value) (t0 : List Value) (S : Nat → Bool) : Nat → List Value
  | 0 => t0
  | n + 1 => if S n then aput (slotsOf ops V t0 S n) (dstOf ops n) (V n) else slotsOf ops V t0 S n

theorem aput_length (t : List Value) (d : Option Tmp) (v : Value) : (aput t d v).length = t.length := by cases d <;> simp [aput]
theorem slotsOf_length (ops : Array Oper) (V : Nat → Value) (t0 : List Value) (S : Nat → Bool) : ∀ n, (slotsOf ops V t0 S n).length = t0.length
  | 0 => rfl
  | n + 1 => by simp only [slotsOf]; split <;> simp [aput_length, slotsOf_length ops V t0 S n]
theorem aput_get (t : List Value) (d : Option Tmp) (v : Value) (k : Nat) : (aput t d v)[k]? = if d = some k ∧ k < t.length then some v else t[k]? := by
  cases d with
  | none => simp [aput]
  | some d =>
    simp only [aput, List.getElem?_set, Option.some.injEq]
    by_cases h : d = k
    · subst h
      by_cases h2 : d < t.length
      · simp [h2]
      · simp [h2]
    · simp [h]
theorem slotsOf_congr {ops : Array Oper} {V : Nat → Value} {t0 : List Value} {S S' : Nat → Bool} {k : Nat} : ∀ n, (∀ j, j < n → dstOf ops j = some k → S j = S' j) → (slotsOf ops V t0 S n)[k]? = (slotsOf ops V t0 S' n)[k]? := by
  intro n
  induction n with
  | zero => intro _; rfl
  | succ n ih =>
    intro h
    have ih' := ih (fun j hj hd => h j (by omega) hd)
    simp only [slotsOf]
    by_cases hd : dstOf ops n = some k
    · rw [h n (by omega) hd]
      split
      · rw [aput_get, aput_get, slotsOf_length, slotsOf_length, ih']
      · exact ih'
    · have e1 : ∀ t : List Value, (aput t (dstOf ops n) (V n))[k]? = t[k]? := by
        intro t; rw [aput_get, if_neg (fun e => hd e.1)]
      split <;> split <;> (try simp only [e1]) <;> exact ih'

/-- Nothing but what the operations look at counts. -/
theorem aeval_congr {t t' : List Value} {x : Operand} (h : ∀ k, tmpOf x = some k → t[k]? = t'[k]?) : aeval t x = aeval t' x := by
  cases x with
  | tmp k => simp only [aeval, List.getD_eq_getElem?_getD]; rw [h k rfl]
  | _ => rfl
theorem ayielded_congr {ops : Array Oper} {t t' : List Value} {j : Nat} (h : ∀ k, dstOf ops j = some k → t[k]? = t'[k]?) : ayielded ops t j = ayielded ops t' j := by
  unfold ayielded
  cases hd : (ops[j]?).bind (·.dst) with
  | none => rfl
  | some d => rw [Option.bind_some, Option.bind_some, h d hd]
theorem wanted_congr {ops : Array Oper} {t t' : List Value} {o : Oper} (h : ∀ k ∈ looksAt ops.toList o, t[k]? = t'[k]?) : Region.wanted o (ayielded ops t) = Region.wanted o (ayielded ops t') := by
  unfold Region.wanted
  cases hg : o.guard with
  | none => rfl
  | some g =>
    obtain ⟨j, want⟩ := g
    show (ayielded ops t j == some want) = (ayielded ops t' j == some want)
    rw [ayielded_congr (ops := ops) (t := t) (t' := t') (j := j)]
    intro k hk
    refine h k ?_
    unfold looksAt
    rw [hg]
    simp only [List.mem_append]
    right
    have : (ops.toList[j]?).bind (·.dst) = some k := by simpa [dstOf] using hk
    rw [this]; simp

/-- A function of the operands. -/
theorem operands_congr {ops : Array Oper} {t t' : List Value} {o : Oper} (h : ∀ k ∈ looksAt ops.toList o, t[k]? = t'[k]?) : ∀ x ∈ o.op.operands.toList, aeval t x = aeval t' x := by
  intro x hx
  refine aeval_congr (fun k hk => h k ?_)
  unfold looksAt
  simp only [List.mem_append, List.mem_filterMap]
  exact Or.inl (Or.inr ⟨x, hx, hk⟩)

theorem map_congr' {l : List Operand} {ea ea' : Operand → Value} (h : ∀ x ∈ l, ea x = ea' x) : l.map ea = l.map ea' := List.map_congr_left h
theorem omap_congr {o : Option Operand} {ea ea' : Operand → Value} (h : ∀ x, o = some x → ea x = ea' x) : o.map ea = o.map ea' := by
  cases o with
  | none => rfl
  | some x => simp [h x rfl]

theorem apure_congr {ea ea' : Operand → Value} {op : Op} (h : ∀ x ∈ op.operands.toList, ea x = ea' x) : apure P ea op = apure P ea' op := by
  cases op with
  | move x => simp only [apure]; rw [h x (by simp [Op.operands])]
  | assign x => simp only [apure]; rw [h x (by simp [Op.operands])]
  | pick c a b => simp only [apure]; rw [h c (by simp [Op.operands]), h a (by simp [Op.operands]), h b (by simp [Op.operands])]
  | build t parts =>
    simp only [apure]
    congr 1
    apply List.map_congr_left
    intro p hp
    rw [h p.2 (by simp only [Op.operands, List.mem_map]; exact ⟨p, hp, rfl⟩)]
  | nilCheck x => simp only [apure]; rw [h x (by simp [Op.operands])]
  | binOp o t x y yt => simp only [apure]; rw [h x (by simp [Op.operands]), h y (by simp [Op.operands])]
  | unOp o t x => simp only [apure]; rw [h x (by simp [Op.operands])]
  | convert s d x => simp only [apure]; rw [h x (by simp [Op.operands])]
  | makeInterface t x => simp only [apure]; rw [h x (by simp [Op.operands])]
  | makeFunc fn first captured =>
    have e1 : first.map ea = first.map ea' := by
      apply Array.map_congr_left; intro x hx; exact h x (by simp [Op.operands]; exact Or.inl hx)
    have e2 : captured.map ea = captured.map ea' := by
      apply Array.map_congr_left; intro x hx; exact h x (by simp [Op.operands]; exact Or.inr hx)
    cases fn <;> simp only [apure] <;> rw [e1, e2]
  | slice t x lo hi mx =>
    simp only [apure]
    rw [h x (by simp [Op.operands]), omap_congr (fun y hy => h y (by simp [Op.operands, hy])), omap_congr (o := hi) (fun y hy => h y (by simp [Op.operands, hy])), omap_congr (o := mx) (fun y hy => h y (by simp [Op.operands, hy]))]
  | fieldAddr s x f => simp only [apure]; rw [h x (by simp [Op.operands])]
  | field t x f => simp only [apure]; rw [h x (by simp [Op.operands])]
  | indexAddr t x ix => simp only [apure]; rw [h x (by simp [Op.operands]), h ix (by simp [Op.operands])]
  | index t x ix => simp only [apure]; rw [h x (by simp [Op.operands]), h ix (by simp [Op.operands])]
  | extract x i => simp only [apure]; rw [h x (by simp [Op.operands])]
  | typeAssert x xt t ok => simp only [apure]; rw [h x (by simp [Op.operands])]
  | call c =>
    obtain ⟨callee, args, argTypes⟩ := c
    cases callee with
    | builtin b =>
      have e1 : args.toList.map ea = args.toList.map ea' := by
        apply List.map_congr_left; intro x hx; exact h x (by simp [Op.operands, Call.operands]; simpa using hx)
      cases b <;> simp only [apure] <;> (try rw [e1])
      -- len
      split
      · rename_i x t hx ht
        rw [h x (by simp only [Op.operands, Call.operands]; simp [hx])]
      · rfl
    | _ => rfl
  | _ => rfl

theorem aread_congr {ea ea' : Operand → Value} {h : AHeap} {op : Op} (hx : ∀ x ∈ op.operands.toList, ea x = ea' x) : aread P ea h op = aread P ea' h op := by
  cases op with
  | convert s d x => simp only [aread]; rw [hx x (by simp [Op.operands])]
  | load t a => simp only [aread]; rw [hx a (by simp [Op.operands])]
  | lookup t m k ok => simp only [aread]; rw [hx m (by simp [Op.operands]), hx k (by simp [Op.operands])]
  | slice t x lo hi mx =>
    simp only [aread]
    rw [hx x (by simp [Op.operands]), omap_congr (fun y hy => hx y (by simp [Op.operands, hy])), omap_congr (o := hi) (fun y hy => hx y (by simp [Op.operands, hy])), omap_congr (o := mx) (fun y hy => hx y (by simp [Op.operands, hy]))]
  | call c =>
    obtain ⟨callee, args, argTypes⟩ := c
    cases callee with
    | builtin b =>
      cases b <;> simp only [aread]
      split
      · rename_i x t he ht
        rw [hx x (by simp only [Op.operands, Call.operands]; simp [he])]
      · rfl
    | _ => rfl
  | _ => rfl

theorem aeff_congr {ea ea' : Operand → Value} {h : AHeap} {op : Op} (hx : ∀ x ∈ op.operands.toList, ea x = ea' x) : aeff P ea h op = aeff P ea' h op := by
  cases op with
  | alloc e => rfl
  | box e x => simp only [aeff]; rw [hx x (by simp [Op.operands])]
  | buildSlice t len parts =>
    simp only [aeff]
    congr 1
    apply List.map_congr_left
    intro p hp
    rw [hx p.2 (by simp only [Op.operands, List.mem_map]; exact ⟨p, hp, rfl⟩)]
  | store t a x => simp only [aeff]; rw [hx a (by simp [Op.operands]), hx x (by simp [Op.operands])]
  | makeSlice t l c => simp only [aeff]; rw [hx l (by simp [Op.operands]), hx c (by simp [Op.operands])]
  | range t x => simp only [aeff]; rw [hx x (by simp [Op.operands])]
  | next it b => cases b <;> simp only [aeff]; rw [hx it (by simp [Op.operands])]
  | convert s d x => simp only [aeff]; rw [hx x (by simp [Op.operands])]
  | makeMap t r => cases r <;> rfl
  | mapUpdate t m k x => simp only [aeff]; rw [hx m (by simp [Op.operands]), hx k (by simp [Op.operands]), hx x (by simp [Op.operands])]
  | insert t m k x => simp only [aeff]; rw [hx m (by simp [Op.operands]), hx k (by simp [Op.operands]), hx x (by simp [Op.operands])]
  | call c =>
    obtain ⟨callee, args, argTypes⟩ := c
    cases callee with
    | builtin b =>
      cases b <;> simp only [aeff]
      · split
        · rename_i s x sT xT he ht
          rw [hx s (by simp only [Op.operands, Call.operands]; simp [he]), hx x (by simp only [Op.operands, Call.operands]; simp [he])]
        · rfl
      · split
        · rename_i x t he ht
          rw [hx x (by simp only [Op.operands, Call.operands]; simp [he])]
        · rfl
      · split
        · rename_i s x t tys he ht
          rw [hx s (by simp only [Op.operands, Call.operands]; simp [he]), hx x (by simp only [Op.operands, Call.operands]; simp [he])]
        · rfl
      · split
        · rename_i s x t tys he ht
          rw [hx s (by simp only [Op.operands, Call.operands]; simp [he]), hx x (by simp only [Op.operands, Call.operands]; simp [he])]
        · rfl
    | _ => rfl
  | _ => rfl

theorem aop_congr {call : ACall} {ea ea' : Operand → Value} {h : AHeap} {op : Op} (hx : ∀ x ∈ op.operands.toList, ea x = ea' x) : aop P call ea h op = aop P call ea' h op := by
  unfold aop
  split
  · rename_i f args argTypes
    rw [hx f (by simp [Op.operands, Call.operands]), List.map_congr_left (f := ea) (g := ea') (l := args.toList) (fun x hm => hx x (by simp [Op.operands, Call.operands]; exact Or.inr (by simpa using hm)))]
  · rename_i f name args argTypes
    rw [hx f (by simp [Op.operands, Call.operands]), List.map_congr_left (f := ea) (g := ea') (l := args.toList) (fun x hm => hx x (by simp [Op.operands, Call.operands]; exact Or.inr (by simpa using hm)))]
  · rw [apure_congr hx, aread_congr hx, aeff_congr hx]

/-! ### Whatever order -/
theorem slots_trace {call : ACall} {ops : Array Oper} {n : Nat} {T : Nat → List Value} {Hh : Nat → AHeap} {V : Nat → Value} (tr : Trace P call ops 0 n T Hh V) : ∀ m i, m ≤ n → i ≤ m → slotsOf ops V (T 0) (fun j => j < i) m = T i := by
  intro m
  induction m with
  | zero =>
    intro i _ hi
    have : i = 0 := by omega
    subst this; rfl
  | succ m ih =>
    intro i hm hi
    simp only [slotsOf]
    by_cases h : m < i
    · obtain rfl : i = m + 1 := by omega
      simp only [show (decide (m < m + 1)) = true by simp, if_true]
      have e : slotsOf ops V (T 0) (fun j => decide (j < m + 1)) m = slotsOf ops V (T 0) (fun j => decide (j < m)) m := by
        apply List.ext_getElem?
        intro k
        exact slotsOf_congr m (fun j hj _ => by simp; omega)
      rw [e, ih m (by omega) (Nat.le_refl _)]
      exact (tr.next m (by omega) (by omega)).symm
    · rw [if_neg (by simpa using h)]
      exact ih i (by omega) (by omega)

theorem bits_in {ops : Array Oper} {n : Nat} {S : Nat → Bool} (hn : ops.size = n) (D : DrawOK P ops.toList)
    (hc : ∀ j o, j < n → ops[j]? = some o → S j = true → ∀ e ∈ o.after.toList, Region.binds .any e = true → S e.on = true) :
    ∀ i o, i < n → ops[i]? = some o → (∀ e ∈ o.after.toList, Region.binds .any e = true → S e.on = true) → ∀ j, ((befs ops.toList []).getD i 0).testBit j = true → S j = true := by
  intro i
  induction i using Nat.strongRecOn with
  | _ i ih =>
    intro o hi ho hd j hb
    obtain ⟨e, he, h1, h2⟩ := befs_spec ops.toList j i o (by simpa using ho) hb
    rcases h2 with rfl | h2
    · exact hd e he h1
    · have hlt := D.on i o (by simpa using ho) e he h1
      have hsz : e.on < ops.size := by omega
      exact ih e.on hlt ops[e.on] (by omega) (by simp) (fun e2 he2 hb2 => hc e.on ops[e.on] (by omega) (by simp) (hd e he h1) e2 he2 hb2) j h2

/-- Whoever writes a slot that i looks at is done just if he stands before i. -/
theorem writers {ops : Array Oper} {n : Nat} {S : Nat → Bool} (hn : ops.size = n) (D : DrawOK P ops.toList)
    (hc : ∀ j o, j < n → ops[j]? = some o → S j = true → ∀ e ∈ o.after.toList, Region.binds .any e = true → S e.on = true)
    {i : Nat} {o : Oper} (hi : i < n) (ho : ops[i]? = some o) (hS : S i = false) (hd : ∀ e ∈ o.after.toList, Region.binds .any e = true → S e.on = true)
    {j : Nat} (hap : apartOf (befs ops.toList []) i j = true) (hj : j < n) (hne : j ≠ i) : S j = decide (j < i) := by
  unfold apartOf at hap
  split at hap
  · rename_i hlt
    rw [bits_in hn D hc i o hi ho hd j hap]; simp [hlt]
  · rename_i hge
    have : S j = false := by
      rw [Bool.eq_false_iff]
      intro hSj
      have := bits_in hn D hc j ops[j] hj (by simp) (fun e he hb => hc j ops[j] hj (by simp) hSj e he hb) i hap
      rw [hS] at this; simp at this
    rw [this]; symm; simp; omega


/-- The operations that change the heap and are done. -/
def Eff (P : Program) (ops : Array Oper) (T : Nat → List Value) (j : Nat) : Prop := ∃ o, ops[j]? = some o ∧ kindOf P o.op = 2 ∧ Region.wanted o (ayielded ops (T j)) = true
/-- Done, but not yet told of in the heap. -/
def Pend (P : Program) (ops : Array Oper) (T : Nat → List Value) (n : Nat) (S : Nat → Bool) (m j : Nat) : Prop := m ≤ j ∧ j < n ∧ S j = true ∧ Eff P ops T j
def PendSlot (P : Program) (ops : Array Oper) (T : Nat → List Value) (n : Nat) (S : Nat → Bool) (m k : Nat) : Prop := ∃ j, Pend P ops T n S m j ∧ dstOf ops j = some k

/-- Slots of which some are left out. -/
def SOK (ρ : Rho) (D : Nat → Prop) (t t' : List Value) : Prop := t.length = t'.length ∧ ∀ k v, t[k]? = some v → ¬ D k → ∃ v', t'[k]? = some v' ∧ VRel ρ v v'

/-- A new object that is laid and not yet told of. -/
structure PF (P : Program) (G : Nat) (ops : Array Oper) (n : Nat) (T : Nat → List Value) (Hh : Nat → AHeap) (V : Nat → Value) (S : Nat → Bool) (N0 : Nat) (ρ : Rho) (a : Act) (w : World) (m : Nat) (p : Pl) (j : Nat) : Prop where
  lt : p.blk < w.heap.size
  ge : N0 ≤ p.blk
  free : ∀ (b : Nat) (o : AObj) (q : Pl), (Hh m)[b]? = some o → o.live = true → ρ b = some q → q.blk ≠ p.blk
  obj : ∃ x, Hh (j + 1) = Hh j ++ [x] ∧ x.own = true ∧ ObjRel G ρ w p x
  val : ∃ v', (∀ k, dstOf ops j = some k → k < a.tmps.size → a.tmps[k]? = some v') ∧ ∀ ρ' : Rho, ρ' (Hh j).length = some p → VRel ρ' (V j) v'
  last : ∀ j' k, j' < n → S j' = true → dstOf ops j = some k → dstOf ops j' = some k → j' ≤ j

/-- What stands when the operations of S are done; the heap tells of the effects ahead of m. -/
structure Mid (P : Program) (G : Nat) (W0 : World) (ops : Array Oper) (n : Nat) (T : Nat → List Value) (Hh : Nat → AHeap) (V : Nat → Value) (S : Nat → Bool) (ρ0 : Rho) (w0 : World) (ρ : Rho) (a : Act) (w : World) (m : Nat) (pl : Nat → Pl) : Prop where
  le : m ≤ n
  slots : SOK ρ (PendSlot P ops T n S m) (slotsOf ops V (T 0) S n) a.tmps.toList
  heap : HRel G ρ (Hh m) w
  low : ∀ j, j < m → Eff P ops T j → S j = true
  high : ∀ j o, Pend P ops T n S m j → ops[j]? = some o → isAl o.op = true
  kept : Kept G W0 w
  closed : ∀ j o, j < n → ops[j]? = some o → S j = true → ∀ e ∈ o.after.toList, Region.binds .any e = true → S e.on = true
  pend : ∀ j, Pend P ops T n S m j → PF P G ops n T Hh V S w0.heap.size ρ a w m (pl j) j
  dist : ∀ j j', Pend P ops T n S m j → Pend P ops T n S m j' → j ≠ j' → (pl j).blk ≠ (pl j').blk
  fr : Fr ρ0 (Hh 0) w0 ρ (Hh m) w

theorem setS {listed : Array Bool} {i j : Nat} (hi : i < listed.size) : (listed.setIfInBounds i true).getD j false = if j = i then true else listed.getD j false := by
  simp only [Array.getD_eq_getD_getElem?, Array.getElem?_setIfInBounds]
  by_cases e : i = j
  · subst e; simp [hi]
  · rw [if_neg e, if_neg (fun h => e h.symm)]


theorem slotsOf_last {ops : Array Oper} {V : Nat → Value} {t0 : List Value} {S : Nat → Bool} {j k : Nat} (hS : S j = true) (hd : dstOf ops j = some k) : ∀ n, j < n → (∀ j', j' < n → S j' = true → dstOf ops j' = some k → j' ≤ j) → (slotsOf ops V t0 S n)[k]? = if k < t0.length then some (V j) else none := by
  intro n
  induction n with
  | zero => intro h; omega
  | succ n ih =>
    intro hj hl
    simp only [slotsOf]
    by_cases e : j = n
    · subst e
      rw [hS, if_pos rfl, aput_get, slotsOf_length]
      by_cases hk : k < t0.length
      · rw [if_pos ⟨hd, hk⟩, if_pos hk]
      · rw [if_neg (fun h => hk h.2), if_neg hk, List.getElem?_eq_none (by rw [slotsOf_length]; omega)]
    · have ih' := ih (by omega) (fun j' h1 h2 h3 => hl j' (by omega) h2 h3)
      split
      · rename_i hSn
        rw [aput_get, if_neg (fun h => ?_)]
        · exact ih'
        · have := hl n (by omega) hSn h.1; omega
      · exact ih'

theorem step_still {call : ACall} {ops : Array Oper} {T : Nat → List Value} {j : Nat} {h h' : AHeap} {v : Value} (st : StepAt P call ops j (T j) h v h') (hn : ¬ Eff P ops T j) : h' = h := by
  cases st with
  | skip _ _ _ _ hh => exact hh
  | pure _ _ _ _ _ hh => exact hh
  | read _ _ _ _ _ _ _ _ hh => exact hh
  | look _ _ _ _ _ _ _ hh => exact hh
  | eff o hi hw hk _ => exact absurd ⟨o, hi, hk, hw⟩ hn

theorem upd_other {ρ : Rho} {b i : Nat} {p q : Pl} (h : upd ρ b p i = some q) (hne : i ≠ b) : ρ i = some q := by rw [upd_ne _ hne] at h; exact h

/-- The heap tells of one more. -/
theorem Mid.adv {W0 : World} {call : ACall} {ops : Array Oper} {n : Nat} {T : Nat → List Value} {Hh : Nat → AHeap} {V : Nat → Value} {S : Nat → Bool} {ρ0 ρ : Rho} {w0 : World} {a : Act} {w : World} {m : Nat} {pl : Nat → Pl}
    (hn : ops.size = n) (tr : Trace P call ops 0 n T Hh V) (M : Mid P G W0 ops n T Hh V S ρ0 w0 ρ a w m pl) (hG : G ≤ w0.heap.size) (hm : m < n) (hc : Eff P ops T m → S m = true) : ∃ ρ', Mid P G W0 ops n T Hh V S ρ0 w0 ρ' a w (m + 1) pl := by
  by_cases hE : Eff P ops T m
  · -- it is adopted
    have hP : Pend P ops T n S m m := ⟨Nat.le_refl _, hm, hc hE, hE⟩
    have F := M.pend m hP
    obtain ⟨x, hx1, hx2, hx3⟩ := F.obj
    have hle := M.heap.updLe (pl m)
    have HA : HRel G (upd ρ (Hh m).length (pl m)) (Hh (m + 1)) w := by
      rw [hx1]
      exact M.heap.adopt F.lt (Nat.le_trans hG F.ge) F.free (hx3.mono hle (fun _ => rfl))
    have hpe : ∀ j, Pend P ops T n S (m + 1) j → Pend P ops T n S m j ∧ j ≠ m := fun j ⟨h1, h2, h3, h4⟩ => ⟨⟨by omega, h2, h3, h4⟩, by omega⟩
    have hold : ∀ {b : Nat} {o : AObj} {q : Pl}, (Hh (m + 1))[b]? = some o → upd ρ (Hh m).length (pl m) b = some q → ((Hh m)[b]? = some o ∧ ρ b = some q) ∨ (o = x ∧ q = pl m) := by
      intro b o q hb hq
      rw [hx1] at hb
      rcases get_append hb with ⟨hl, hb⟩ | ⟨rfl, rfl⟩
      · exact Or.inl ⟨hb, upd_other hq (by omega)⟩
      · rw [upd_same] at hq; simp only [Option.some.injEq] at hq; exact Or.inr ⟨rfl, hq.symm⟩
    refine ⟨upd ρ (Hh m).length (pl m), ⟨by omega, ⟨M.slots.1, ?_⟩, HA, ?_, fun j o hp ho => M.high j o (hpe j hp).1 ho, M.kept, M.closed, ?_, fun j j' h1 h2 => M.dist j j' (hpe j h1).1 (hpe j' h2).1, ?_⟩⟩
    · intro k v hk hnp
      by_cases hd : dstOf ops m = some k
      · -- its own slot
        obtain ⟨v', g1, g2⟩ := F.val
        have hl := slotsOf_last (V := V) (t0 := T 0) hP.2.2.1 hd n hm (fun j' h1 h2 h3 => F.last j' k h1 h2 hd h3)
        rw [hk] at hl
        split at hl
        · rename_i hlt
          simp only [Option.some.injEq] at hl; subst hl
          have hsz : k < a.tmps.size := by
            have := M.slots.1
            rw [slotsOf_length] at this
            simpa [this] using hlt
          refine ⟨v', by simpa using g1 k hd hsz, g2 _ (upd_same _ _ _)⟩
        · simp at hl
      · obtain ⟨v', g1, g2⟩ := M.slots.2 k v hk (by
          rintro ⟨j, hj, hdj⟩
          apply hnp
          refine ⟨j, ⟨?_, hj.2.1, hj.2.2.1, hj.2.2.2⟩, hdj⟩
          have : j ≠ m := fun e => hd (e ▸ hdj)
          have := hj.1
          omega)
        exact ⟨v', g1, g2.mono hle⟩
    · intro j hj hE'
      by_cases e : j = m
      · subst e; exact hc hE'
      · exact M.low j (by omega) hE'
    · intro j hj
      obtain ⟨hj', hne⟩ := hpe j hj
      have F2 := M.pend j hj'
      refine ⟨F2.lt, F2.ge, ?_, ?_, F2.val, F2.last⟩
      · intro b o q hb ho hq
        rcases hold hb hq with ⟨hb, hq⟩ | ⟨_, rfl⟩
        · exact F2.free b o q hb ho hq
        · exact M.dist m j hP hj' (fun e => hne e.symm)
      · obtain ⟨y, y1, y2, y3⟩ := F2.obj
        exact ⟨y, y1, y2, y3.mono hle (fun _ => rfl)⟩
    · have R := M.fr
      refine ⟨R.ext.trans hle, R.size, R.tape, R.os, R.output, ?_, ?_, R.keep⟩
      · intro b o q hb ho hq hlt
        rcases hold hb hq with ⟨hb, hq⟩ | ⟨_, rfl⟩
        · exact R.own b o q hb ho hq hlt
        · have := F.ge; omega
      · intro b o q hb ho hq hlt
        rcases hold hb hq with ⟨hb, hq⟩ | ⟨_, rfl⟩
        · exact R.liv b o q hb ho hq hlt
        · have := F.ge; omega
  · have hh := step_still (tr.step m (by omega) hm) hE
    have hpe : ∀ j, Pend P ops T n S (m + 1) j ↔ Pend P ops T n S m j := by
      intro j
      constructor
      · rintro ⟨h1, h2, h3, h4⟩; exact ⟨by omega, h2, h3, h4⟩
      · rintro ⟨h1, h2, h3, h4⟩
        have : j ≠ m := fun e => hE (e ▸ h4)
        exact ⟨by omega, h2, h3, h4⟩
    refine ⟨ρ, ⟨by omega, ⟨M.slots.1, fun k v hk hnp => M.slots.2 k v hk (fun ⟨j, hj, hd⟩ => hnp ⟨j, (hpe j).2 hj, hd⟩)⟩, by rw [hh]; exact M.heap, ?_, fun j o hp ho => M.high j o ((hpe j).1 hp) ho, M.kept, M.closed, ?_,
      fun j j' h1 h2 => M.dist j j' ((hpe j).1 h1) ((hpe j').1 h2), by rw [hh]; exact M.fr⟩⟩
    · intro j hj hE'
      have : j ≠ m := fun e => hE (e ▸ hE')
      exact M.low j (by omega) hE'
    · intro j hj
      have F2 := M.pend j ((hpe j).1 hj)
      exact ⟨F2.lt, F2.ge, by rw [hh]; exact F2.free, F2.obj, F2.val, F2.last⟩

/-- The heap tells of all that can be told. -/
def MaxM (P : Program) (ops : Array Oper) (T : Nat → List Value) (n : Nat) (S : Nat → Bool) (m : Nat) : Prop := m < n → Eff P ops T m ∧ S m = false
theorem Mid.most {W0 : World} {call : ACall} {ops : Array Oper} {n : Nat} {T : Nat → List Value} {Hh : Nat → AHeap} {V : Nat → Value} {S : Nat → Bool} {ρ0 : Rho} {w0 : World} {a : Act} {w : World} {pl : Nat → Pl}
    (hn : ops.size = n) (tr : Trace P call ops 0 n T Hh V) (hG : G ≤ w0.heap.size) : ∀ (d m : Nat) (ρ : Rho), n - m = d → Mid P G W0 ops n T Hh V S ρ0 w0 ρ a w m pl → ∃ ρ' m', Mid P G W0 ops n T Hh V S ρ0 w0 ρ' a w m' pl ∧ MaxM P ops T n S m' := by
  intro d
  induction d with
  | zero => intro m ρ hd M; exact ⟨ρ, m, M, fun h => by omega⟩
  | succ d ih =>
    intro m ρ hd M
    by_cases h : Eff P ops T m → S m = true
    · obtain ⟨ρ', M'⟩ := M.adv hn tr hG (by omega) h
      exact ih (m + 1) ρ' (by omega) M'
    · refine ⟨ρ, m, M, fun _ => ?_⟩
      by_cases hE : Eff P ops T m
      · refine ⟨hE, ?_⟩
        rw [Bool.eq_false_iff]; intro hS; exact h (fun _ => hS)
      · exact absurd (fun e => absurd e hE) h
end Go.AM
