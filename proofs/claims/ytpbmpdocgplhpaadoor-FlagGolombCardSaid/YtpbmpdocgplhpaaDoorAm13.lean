/-
  THE ABSTRACT EXECUTOR: a region that draws its order (2).
-/
import Derived.Test.YtpbmpdocgplhpaaDoorAm12
set_option linter.unusedSimpArgs false
set_option linter.unusedVariables false
namespace Go.AM
variable {P : Program} {G : Nat}

/-- The slots when the operations of S, in the text's order, are done. -/
def slotsOf (ops : Array Oper) (V : Nat → Value) (t0 : List Value) (S : Nat → Bool) : Nat → List Value
  | 0 => t0
  | n + 1 => if S n then aput (slotsOf ops V t0 S n) (dstOf ops n) (V n) else slotsOf ops V t0 S n

theorem aput_length (t : List Value) (d : Option Tmp) (v : Value) : (aput t d v).length = t.length := by cases d <;> simp [aput]
theorem slotsOf_length (ops : Array Oper) (V : Nat → Value) (t0 : List Value) (S : Nat → Bool) : ∀ n, (slotsOf ops V t0 S n).length = t0.length
  | 0 => rfl
  | n + 1 => by simp only [slotsOf]; split <;> simp [aput_length, slotsOf_length ops V t0 S n]
theorem aput_get (t : List Value) (d : Option Tmp) (v : Value) (k : Nat) : (aput t d v)[k]? = if d = some k ∧ k < t.length then some v else t[k]? := by
  cases d with
  | none => simp [aput]
  | some d =>
    simp only [aput, List.getElem?_set, Option.some.injEq]
    by_cases h : d = k
    · subst h
      by_cases h2 : d < t.length
      · simp [h2]
      · simp [h2]
    · simp [h]
theorem slotsOf_congr {ops : Array Oper} {V : Nat → Value} {t0 : List Value} {S S' : Nat → Bool} {k : Nat} : ∀ n, (∀ j, j < n → dstOf ops j = some k → S j = S' j) → (slotsOf ops V t0 S n)[k]? = (slotsOf ops V t0 S' n)[k]? := by
  intro n
  induction n with
  | zero => intro _; rfl
  | succ n ih =>
    intro h
    have ih' := ih (fun j hj hd => h j (by omega) hd)
    simp only [slotsOf]
    by_cases hd : dstOf ops n = some k
    · rw [h n (by omega) hd]
      split
      · rw [aput_get, aput_get, slotsOf_length, slotsOf_length, ih']
      · exact ih'
    · have e1 : ∀ t : List Value, (aput t (dstOf ops n) (V n))[k]? = t[k]? := by
        intro t; rw [aput_get, if_neg (fun e => hd e.1)]
      split <;> split <;> (try simp only [e1]) <;> exact ih'

/-- Nothing but what the operations look at counts. -/
theorem aeval_congr {t t' : List Value} {x : Operand} (h : ∀ k, tmpOf x = some k → t[k]? = t'[k]?) : aeval t x = aeval t' x := by
  cases x with
  | tmp k => simp only [aeval, List.getD_eq_getElem?_getD]; rw [h k rfl]
  | _ => rfl
theorem ayielded_congr {ops : Array Oper} {t t' : List Value} {j : Nat} (h : ∀ k, dstOf ops j = some k → t[k]? = t'[k]?) : ayielded ops t j = ayielded ops t' j := by
  unfold ayielded
  cases hd : (ops[j]?).bind (·.dst) with
  | none => rfl
  | some d => rw [Option.bind_some, Option.bind_some, h d hd]
theorem wanted_congr {ops : Array Oper} {t t' : List Value} {o : Oper} (h : ∀ k ∈ looksAt ops.toList o, t[k]? = t'[k]?) : Region.wanted o (ayielded ops t) = Region.wanted o (ayielded ops t') := by
  unfold Region.wanted
  cases hg : o.guard with
  | none => rfl
  | some g =>
    obtain ⟨j, want⟩ := g
    show (ayielded ops t j == some want) = (ayielded ops t' j == some want)
    rw [ayielded_congr (ops := ops) (t := t) (t' := t') (j := j)]
    intro k hk
    refine h k ?_
    unfold looksAt
    rw [hg]
    simp only [List.mem_append]
    right
    have : (ops.toList[j]?).bind (·.dst) = some k := by simpa [dstOf] using hk
    rw [this]; simp

/-- A function of the operands. -/
theorem operands_congr {ops : Array Oper} {t t' : List Value} {o : Oper} (h : ∀ k ∈ looksAt ops.toList o, t[k]? = t'[k]?) : ∀ x ∈ o.op.operands.toList, aeval t x = aeval t' x := by
  intro x hx
  refine aeval_congr (fun k hk => h k ?_)
  unfold looksAt
  simp only [List.mem_append, List.mem_filterMap]
  exact Or.inl (Or.inr ⟨x, hx, hk⟩)

theorem map_congr' {l : List Operand} {ea ea' : Operand → Value} (h : ∀ x ∈ l, ea x = ea' x) : l.map ea = l.map ea' := List.map_congr_left h
theorem omap_congr {o : Option Operand} {ea ea' : Operand → Value} (h : ∀ x, o = some x → ea x = ea' x) : o.map ea = o.map ea' := by
  cases o with
  | none => rfl
  | some x => simp [h x rfl]

theorem apure_congr {ea ea' : Operand → Value} {op : Op} (h : ∀ x ∈ op.operands.toList, ea x = ea' x) : apure P ea op = apure P ea' op := by
  cases op with
  | move x => simp only [apure]; rw [h x (by simp [Op.operands])]
  | assign x => simp only [apure]; rw [h x (by simp [Op.operands])]
  | pick c a b => simp only [apure]; rw [h c (by simp [Op.operands]), h a (by simp [Op.operands]), h b (by simp [Op.operands])]
  | build t parts =>
    simp only [apure]
    congr 1
    apply List.map_congr_left
    intro p hp
    rw [h p.2 (by simp only [Op.operands, List.mem_map]; exact ⟨p, hp, rfl⟩)]
  | nilCheck x => simp only [apure]; rw [h x (by simp [Op.operands])]
  | binOp o t x y yt => simp only [apure]; rw [h x (by simp [Op.operands]), h y (by simp [Op.operands])]
  | unOp o t x => simp only [apure]; rw [h x (by simp [Op.operands])]
  | convert s d x => simp only [apure]; rw [h x (by simp [Op.operands])]
  | makeInterface t x => simp only [apure]; rw [h x (by simp [Op.operands])]
  | makeFunc fn first captured =>
    have e1 : first.map ea = first.map ea' := by
      apply Array.map_congr_left; intro x hx; exact h x (by simp [Op.operands]; exact Or.inl hx)
    have e2 : captured.map ea = captured.map ea' := by
      apply Array.map_congr_left; intro x hx; exact h x (by simp [Op.operands]; exact Or.inr hx)
    cases fn <;> simp only [apure] <;> rw [e1, e2]
  | slice t x lo hi mx =>
    simp only [apure]
    rw [h x (by simp [Op.operands]), omap_congr (fun y hy => h y (by simp [Op.operands, hy])), omap_congr (o := hi) (fun y hy => h y (by simp [Op.operands, hy])), omap_congr (o := mx) (fun y hy => h y (by simp [Op.operands, hy]))]
  | fieldAddr s x f => simp only [apure]; rw [h x (by simp [Op.operands])]
  | field t x f => simp only [apure]; rw [h x (by simp [Op.operands])]
  | indexAddr t x ix => simp only [apure]; rw [h x (by simp [Op.operands]), h ix (by simp [Op.operands])]
  | index t x ix => simp only [apure]; rw [h x (by simp [Op.operands]), h ix (by simp [Op.operands])]
  | extract x i => simp only [apure]; rw [h x (by simp [Op.operands])]
  | call c =>
    obtain ⟨callee, args, argTypes⟩ := c
    cases callee with
    | builtin b =>
      have e1 : args.toList.map ea = args.toList.map ea' := by
        apply List.map_congr_left; intro x hx; exact h x (by simp [Op.operands, Call.operands]; simpa using hx)
      cases b <;> simp only [apure] <;> (try rw [e1])
      -- len
      split
      · rename_i x t hx ht
        rw [h x (by simp only [Op.operands, Call.operands]; simp [hx])]
      · rfl
    | _ => rfl
  | _ => rfl

theorem aread_congr {ea ea' : Operand → Value} {h : AHeap} {op : Op} (hx : ∀ x ∈ op.operands.toList, ea x = ea' x) : aread P ea h op = aread P ea' h op := by
  cases op with
  | load t a => simp only [aread]; rw [hx a (by simp [Op.operands])]
  | lookup t m k ok => simp only [aread]; rw [hx m (by simp [Op.operands]), hx k (by simp [Op.operands])]
  | slice t x lo hi mx =>
    simp only [aread]
    rw [hx x (by simp [Op.operands]), omap_congr (fun y hy => hx y (by simp [Op.operands, hy])), omap_congr (o := hi) (fun y hy => hx y (by simp [Op.operands, hy])), omap_congr (o := mx) (fun y hy => hx y (by simp [Op.operands, hy]))]
  | call c =>
    obtain ⟨callee, args, argTypes⟩ := c
    cases callee with
    | builtin b =>
      cases b <;> simp only [aread]
      split
      · rename_i x t he ht
        rw [hx x (by simp only [Op.operands, Call.operands]; simp [he])]
      · rfl
    | _ => rfl
  | _ => rfl

theorem aeff_congr {ea ea' : Operand → Value} {h : AHeap} {op : Op} (hx : ∀ x ∈ op.operands.toList, ea x = ea' x) : aeff P ea h op = aeff P ea' h op := by
  cases op with
  | alloc e => rfl
  | box e x => simp only [aeff]; rw [hx x (by simp [Op.operands])]
  | buildSlice t len parts =>
    simp only [aeff]
    congr 1
    apply List.map_congr_left
    intro p hp
    rw [hx p.2 (by simp only [Op.operands, List.mem_map]; exact ⟨p, hp, rfl⟩)]
  | store t a x => simp only [aeff]; rw [hx a (by simp [Op.operands]), hx x (by simp [Op.operands])]
  | makeSlice t l c => simp only [aeff]; rw [hx l (by simp [Op.operands]), hx c (by simp [Op.operands])]
  | range t x => simp only [aeff]; rw [hx x (by simp [Op.operands])]
  | next it b => cases b <;> simp only [aeff]; rw [hx it (by simp [Op.operands])]
  | convert s d x => simp only [aeff]; rw [hx x (by simp [Op.operands])]
  | makeMap t r => cases r <;> rfl
  | mapUpdate t m k x => simp only [aeff]; rw [hx m (by simp [Op.operands]), hx k (by simp [Op.operands]), hx x (by simp [Op.operands])]
  | insert t m k x => simp only [aeff]; rw [hx m (by simp [Op.operands]), hx k (by simp [Op.operands]), hx x (by simp [Op.operands])]
  | call c =>
    obtain ⟨callee, args, argTypes⟩ := c
    cases callee with
    | builtin b =>
      cases b <;> simp only [aeff]
      · split
        · rename_i s x sT xT he ht
          rw [hx s (by simp only [Op.operands, Call.operands]; simp [he]), hx x (by simp only [Op.operands, Call.operands]; simp [he])]
        · rfl
      · split
        · rename_i x t he ht
          rw [hx x (by simp only [Op.operands, Call.operands]; simp [he])]
        · rfl
    | _ => rfl
  | _ => rfl

theorem aop_congr {call : ACall} {ea ea' : Operand → Value} {h : AHeap} {op : Op} (hx : ∀ x ∈ op.operands.toList, ea x = ea' x) : aop P call ea h op = aop P call ea' h op := by
  unfold aop
  split
  · rename_i f args argTypes
    rw [hx f (by simp [Op.operands, Call.operands]), List.map_congr_left (f := ea) (g := ea') (l := args.toList) (fun x hm => hx x (by simp [Op.operands, Call.operands]; exact Or.inr (by simpa using hm)))]
  · rw [apure_congr hx, aread_congr hx, aeff_congr hx]

/-! ### Whatever order -/
/-- What stands when the operations of S are done. -/
structure Mid (P : Program) (G : Nat) (W0 : World) (call : ACall) (ops : Array Oper) (n : Nat) (T : Nat → List Value) (Hh : Nat → AHeap) (V : Nat → Value) (S : Nat → Bool) (ρ : Rho) (a : Act) (w : World) : Prop where
  slots : LRel ρ (slotsOf ops V (T 0) S n) a.tmps.toList
  heap : ∃ m, m ≤ n ∧ HRel G ρ (Hh m) w ∧ ∀ j o, j < n → ops[j]? = some o → kindOf P o.op = 2 → Region.wanted o (ayielded ops (T j)) = true → (S j = true ↔ j < m)
  kept : Kept G W0 w
  closed : ∀ j o, j < n → ops[j]? = some o → S j = true → ∀ e ∈ o.after.toList, Region.binds .any e = true → S e.on = true

theorem slots_trace {call : ACall} {ops : Array Oper} {n : Nat} {T : Nat → List Value} {Hh : Nat → AHeap} {V : Nat → Value} (tr : Trace P call ops 0 n T Hh V) : ∀ m i, m ≤ n → i ≤ m → slotsOf ops V (T 0) (fun j => j < i) m = T i := by
  intro m
  induction m with
  | zero =>
    intro i _ hi
    have : i = 0 := by omega
    subst this; rfl
  | succ m ih =>
    intro i hm hi
    simp only [slotsOf]
    by_cases h : m < i
    · obtain rfl : i = m + 1 := by omega
      simp only [show (decide (m < m + 1)) = true by simp, if_true]
      have e : slotsOf ops V (T 0) (fun j => decide (j < m + 1)) m = slotsOf ops V (T 0) (fun j => decide (j < m)) m := by
        apply List.ext_getElem?
        intro k
        exact slotsOf_congr m (fun j hj _ => by simp; omega)
      rw [e, ih m (by omega) (Nat.le_refl _)]
      exact (tr.next m (by omega) (by omega)).symm
    · rw [if_neg (by simpa using h)]
      exact ih i (by omega) (by omega)

theorem bits_in {ops : Array Oper} {n : Nat} {S : Nat → Bool} (hn : ops.size = n) (D : DrawOK P ops.toList)
    (hc : ∀ j o, j < n → ops[j]? = some o → S j = true → ∀ e ∈ o.after.toList, Region.binds .any e = true → S e.on = true) :
    ∀ i o, i < n → ops[i]? = some o → (∀ e ∈ o.after.toList, Region.binds .any e = true → S e.on = true) → ∀ j, ((befs ops.toList []).getD i 0).testBit j = true → S j = true := by
  intro i
  induction i using Nat.strongRecOn with
  | _ i ih =>
    intro o hi ho hd j hb
    obtain ⟨e, he, h1, h2⟩ := befs_spec ops.toList j i o (by simpa using ho) hb
    rcases h2 with rfl | h2
    · exact hd e he h1
    · have hlt := D.on i o (by simpa using ho) e he h1
      have hsz : e.on < ops.size := by omega
      exact ih e.on hlt ops[e.on] (by omega) (by simp) (fun e2 he2 hb2 => hc e.on ops[e.on] (by omega) (by simp) (hd e he h1) e2 he2 hb2) j h2

/-- Whoever writes a slot that i looks at is done just if he stands before i. -/
theorem writers {ops : Array Oper} {n : Nat} {S : Nat → Bool} (hn : ops.size = n) (D : DrawOK P ops.toList)
    (hc : ∀ j o, j < n → ops[j]? = some o → S j = true → ∀ e ∈ o.after.toList, Region.binds .any e = true → S e.on = true)
    {i : Nat} {o : Oper} (hi : i < n) (ho : ops[i]? = some o) (hS : S i = false) (hd : ∀ e ∈ o.after.toList, Region.binds .any e = true → S e.on = true)
    {j : Nat} (hap : apartOf (befs ops.toList []) i j = true) (hj : j < n) (hne : j ≠ i) : S j = decide (j < i) := by
  unfold apartOf at hap
  split at hap
  · rename_i hlt
    rw [bits_in hn D hc i o hi ho hd j hap]; simp [hlt]
  · rename_i hge
    have : S j = false := by
      rw [Bool.eq_false_iff]
      intro hSj
      have := bits_in hn D hc j ops[j] hj (by simp) (fun e he hb => hc j ops[j] hj (by simp) hSj e he hb) i hap
      rw [hS] at this; simp at this
    rw [this]; symm; simp; omega

theorem Mid.look {W0 : World} {call : ACall} {ops : Array Oper} {n : Nat} {T : Nat → List Value} {Hh : Nat → AHeap} {V : Nat → Value} {S : Nat → Bool} {ρ : Rho} {a : Act} {w : World} (hn : ops.size = n) (D : DrawOK P ops.toList)
    (tr : Trace P call ops 0 n T Hh V) (M : Mid P G W0 call ops n T Hh V S ρ a w) {i : Nat} {o : Oper} (hi : i < n) (ho : ops[i]? = some o) (hS : S i = false) (hd : ∀ e ∈ o.after.toList, Region.binds .any e = true → S e.on = true) :
    ∀ k ∈ looksAt ops.toList o, (slotsOf ops V (T 0) S n)[k]? = (T i)[k]? := by
  intro k hk
  rw [← slots_trace tr n i (Nat.le_refl _) (by omega)]
  refine slotsOf_congr n (fun j hj hdst => ?_)
  by_cases e : j = i
  · subst e; rw [hS]; simp
  · have hjo : ops[j]? = some ops[j] := by simp
    have hd2 : ops[j].dst = some k := by simpa [dstOf, hjo] using hdst
    have := D.slot i o j ops[j] k (by simpa using ho) (by simp) e hd2 hk
    exact writers hn D M.closed hi ho hS hd this hj e

theorem setS {listed : Array Bool} {i j : Nat} (hi : i < listed.size) : (listed.setIfInBounds i true).getD j false = if j = i then true else listed.getD j false := by
  simp only [Array.getD_eq_getD_getElem?, Array.getElem?_setIfInBounds]
  by_cases e : i = j
  · subst e; simp [hi]
  · rw [if_neg e, if_neg (fun h => e h.symm)]

/-- One more operation. -/
theorem Mid.one {W0 : World} {call : ACall} (hcall : CallOK P G W0 call) {ops : Array Oper} (hops : ops.toList.all (operOK G) = true) {n : Nat} {T : Nat → List Value} {Hh : Nat → AHeap} {V : Nat → Value} {listed : Array Bool} {ρ : Rho} {a : Act} {w : World}
    (hn : ops.size = n) (hls : listed.size = n) (D : DrawOK P ops.toList) (tr : Trace P call ops 0 n T Hh V) (M : Mid P G W0 call ops n T Hh V (fun j => listed.getD j false) ρ a w)
    {i : Nat} {o : Oper} (hi : i < n) (ho : ops[i]? = some o) (hS : listed.getD i false = false) (hd : ∀ e ∈ o.after.toList, Region.binds .any e = true → listed.getD e.on false = true)
    (b : Frame) (k : List Item) (cs : List Frame) (rest : List Nat) :
    ∃ (ρ' : Rho) (a' : Act) (w' : World), Mid P G W0 call ops n T Hh V (fun j => (listed.setIfInBounds i true).getD j false) ρ' a' w' ∧ a'.defers = a.defers ∧ (∀ m, HRel G ρ (Hh m) w → True) ∧
      (∃ m m', m ≤ n ∧ m' ≤ n ∧ Fr ρ (Hh m) w ρ' (Hh m') w' ∧ HRel G ρ (Hh m) w ∧ HRel G ρ' (Hh m') w' ∧ (∀ j q, j < n → ops[j]? = some q → kindOf P q.op = 2 → Region.wanted q (ayielded ops (T j)) = true → (listed.getD j false = true ↔ j < m)) ∧ (∀ j q, j < n → ops[j]? = some q → kindOf P q.op = 2 → Region.wanted q (ayielded ops (T j)) = true → ((listed.setIfInBounds i true).getD j false = true ↔ j < m'))) ∧
      Steps P (lone (b.atR a (.inRegion ops (i :: rest) :: k)) cs w) (lone (b.atR a' (.inRegion ops rest :: k)) cs w') := by
  have hlook := M.look hn D tr hi ho hS hd
  have hops' := operands_congr hlook
  have hwant := wanted_congr (ops := ops) (o := o) hlook
  have hoOK : operOK G o = true := List.all_eq_true.1 hops o (by rw [Array.mem_toList_iff]; exact Array.mem_of_getElem? ho)
  have hset : ∀ j, (listed.setIfInBounds i true).getD j false = if j = i then true else listed.getD j false := fun j => setS (by omega)
  -- the slots behind it
  have slots' : ∀ {ρ' : Rho} {v' : Value}, RhoLe ρ ρ' → VRel ρ' (V i) v' → LRel ρ' (slotsOf ops V (T 0) (fun j => (listed.setIfInBounds i true).getD j false) n) (a.put o.dst v').tmps.toList := by
    intro ρ' v' hle hv
    have e : slotsOf ops V (T 0) (fun j => (listed.setIfInBounds i true).getD j false) n = aput (slotsOf ops V (T 0) (fun j => listed.getD j false) n) o.dst (V i) := by
      apply List.ext_getElem?
      intro q
      rw [aput_get, slotsOf_length]
      by_cases hq : o.dst = some q
      · -- its own slot
        have h1 : (slotsOf ops V (T 0) (fun j => (listed.setIfInBounds i true).getD j false) n)[q]? = (slotsOf ops V (T 0) (fun j => j < i + 1) n)[q]? := by
          refine slotsOf_congr n (fun j hj hdst => ?_)
          rw [hset]
          by_cases ej : j = i
          · subst ej; simp
          · rw [if_neg ej]
            have hd2 : ops[j].dst = some q := by simpa [dstOf, show ops[j]? = some ops[j] by simp] using hdst
            have hap := D.slot i o j ops[j] q (by simpa using ho) (by simp) ej hd2 (by unfold looksAt; rw [hq]; simp)
            have := writers hn D M.closed hi ho hS hd hap hj ej
            rw [this]; simp; omega
        rw [h1, slots_trace tr n (i + 1) (Nat.le_refl _) (by omega), tr.next i (by omega) hi]
        have : dstOf ops i = some q := by simp [dstOf, ho, hq]
        rw [this, aput_get]
        have hl : (T i).length = (T 0).length := by rw [← slots_trace tr n i (Nat.le_refl _) (by omega), slotsOf_length]
        rw [hl]
        simp only [hq, true_and]
        by_cases hlt : q < (T 0).length
        · rw [if_pos hlt, if_pos hlt]
        · rw [if_neg hlt, if_neg hlt]
          rw [List.getElem?_eq_none (by omega), List.getElem?_eq_none (by rw [slotsOf_length]; omega)]
      · rw [if_neg (fun e => hq e.1)]
        refine slotsOf_congr n (fun j hj hdst => ?_)
        rw [hset]
        by_cases ej : j = i
        · subst ej
          exfalso; apply hq
          simpa [dstOf, ho] using hdst
        · rw [if_neg ej]
    rw [e]
    exact (M.slots.mono hle).put hv o.dst
  have closed' : ∀ j q, j < n → ops[j]? = some q → (listed.setIfInBounds i true).getD j false = true → ∀ e ∈ q.after.toList, Region.binds .any e = true → (listed.setIfInBounds i true).getD e.on false = true := by
    intro j q hj hq hSj e he hb
    rw [hset] at hSj ⊢
    by_cases ej : j = i
    · subst ej
      rw [ho] at hq; simp only [Option.some.injEq] at hq; subst hq
      have := hd e he hb
      split
      · rfl
      · exact this
    · rw [if_neg ej] at hSj
      have := M.closed j q hj hq hSj e he hb
      split
      · rfl
      · exact this
  obtain ⟨m, hm, HH, heffs⟩ := M.heap
  -- an operation that is no effect leaves the count of effects as it is
  have keepm : (kindOf P o.op ≠ 2 ∨ Region.wanted o (ayielded ops (T i)) = false) → ∀ j q, j < n → ops[j]? = some q → kindOf P q.op = 2 → Region.wanted q (ayielded ops (T j)) = true → ((listed.setIfInBounds i true).getD j false = true ↔ j < m) := by
    intro hno j q hj hq h2 hw2
    rw [hset]
    by_cases ej : j = i
    · subst ej
      rw [ho] at hq; simp only [Option.some.injEq] at hq; subst hq
      rcases hno with h | h
      · exact absurd h2 h
      · rw [h] at hw2; simp at hw2
    · rw [if_neg ej]; exact heffs j q hj hq h2 hw2
  have hstep := tr.step i (by omega) hi
  have hg := fun hw' => stepGR_op (P := P) (b := b) (a := a) (k := k) (cs := cs) (w := w) (rest := rest) ho hw'
  have hfin : ∀ u, (b.atR a (.inRegion ops (i :: rest) :: k)).finish u = b.atR (a.put o.dst u) (.inRegion ops rest :: k) := by
    intro u; rw [Frame.finish_atR, ho]; rfl
  cases hstep with
  | skip o' hi' hw hv hh =>
    rw [ho] at hi'; simp only [Option.some.injEq] at hi'; subst hi'
    have hw' : Region.wanted o (yielded ops a.tmps) = false := by rw [yielded_eq M.slots, hwant]; exact hw
    refine ⟨ρ, a.put o.dst undef, w, ⟨slots' (.refl ρ) (by rw [hv]; exact .undef ρ), ⟨m, hm, HH, keepm (Or.inr hw)⟩, M.kept, closed'⟩, put_defers _ _ _, fun _ _ => trivial, ⟨m, m, hm, hm, .refl _ _ _, HH, HH, heffs, keepm (Or.inr hw)⟩, .one ?_⟩
    have := stepR_op_skip (P := P) (b := b) (a := a) (k := k) (cs := cs) (w := w) (ops := ops) (i := i) (rest := rest) (by simp [ho, hw'])
    rw [ho] at this
    exact this
  | pure o' hi' hw hk ha hh =>
    rw [ho] at hi'; simp only [Option.some.injEq] at hi'; subst hi'
    have hw' : Region.wanted o (yielded ops a.tmps) = true := by rw [yielded_eq M.slots, hwant]; exact hw
    rw [← apure_congr hops'] at ha
    obtain ⟨v', r1, r2⟩ := apure_sound (LRel.eval HH M.slots) hoOK ha
    refine ⟨ρ, a.put o.dst v', w, ⟨slots' (.refl ρ) r2, ⟨m, hm, HH, keepm (Or.inl (by omega))⟩, M.kept, closed'⟩, put_defers _ _ _, fun _ _ => trivial, ⟨m, m, hm, hm, .refl _ _ _, HH, HH, heffs, keepm (Or.inl (by omega))⟩, .one (step_lone_go ?_)⟩
    have hnd : ∀ c, o.op ≠ .defer c := by intro c e; rw [e] at hk; simp [kindOf] at hk
    rw [hg hw', Oper.semAt_eq _ _ _ hnd, ← hfin]
    simp [stepG.apply, r1, Sem.runT_eq]
  | read o' ty ad hi' hw hk hop ha hh =>
    rw [ho] at hi'; simp only [Option.some.injEq] at hi'; subst hi'
    have hw' : Region.wanted o (yielded ops a.tmps) = true := by rw [yielded_eq M.slots, hwant]; exact hw
    have head : aeval (slotsOf ops V (T 0) (fun j => listed.getD j false) n) ad = aeval (T i) ad := hops' ad (by rw [hop]; simp [Op.operands])
    -- what it reads now is what it reads in the text's order
    have hnow : aload P (Hh m) ty (aeval (T i) ad) = some (V i) := by
      have same_at : ∀ p q, p ≤ q → q ≤ n → (∀ j o, p ≤ j → j < q → ops[j]? = some o → kindOf P o.op = 2 → Region.wanted o (ayielded ops (T j)) = true → False) → Hh q = Hh p := by
        intro p q hpq
        induction q with
        | zero => intro _ _; obtain rfl : p = 0 := by omega
                  rfl
        | succ q ih =>
          intro hq hno
          by_cases e : p = q + 1
          · rw [e]
          · have h1 := ih (by omega) (by omega) (fun j o h1 h2 => hno j o h1 (by omega))
            rw [← h1]
            cases tr.step q (by omega) (by omega) with
            | skip _ _ _ _ hh => exact hh
            | pure _ _ _ _ _ hh => exact hh
            | read _ _ _ _ _ _ _ _ hh => exact hh
            | eff o2 hi2 hw2 hk2 _ => exact (hno q o2 (by omega) (by omega) hi2 hk2 hw2).elim
      have hfl : ∀ e q, e < n → ops[e]? = some q → kindOf P q.op = 2 → e ≠ i → apartOf (befs ops.toList []) i e = false → e ∈ floats P ops i := by
        intro e q he hq h2 hne hap
        unfold floats
        rw [List.mem_filter]
        refine ⟨List.mem_range.2 (by simp; omega), ?_⟩
        have : ops.toList[e]? = some q := by simpa using hq
        rw [this]
        simp [h2, hne, hap]
      have hap_of : ∀ e q, e < n → ops[e]? = some q → e ≠ i → ¬ (listed.getD e false = decide (e < i)) → apartOf (befs ops.toList []) i e = false := by
        intro e q he hq hne hx
        rw [Bool.eq_false_iff]
        intro hap
        exact hx (writers hn D M.closed hi ho hS hd hap he hne)
      by_cases hmi : m ≤ i
      · by_cases hex : ∃ e q, m ≤ e ∧ e < i ∧ ops[e]? = some q ∧ kindOf P q.op = 2 ∧ Region.wanted q (ayielded ops (T e)) = true
        · -- the first effect from m on
          have : ∃ e, (∃ q, m ≤ e ∧ e < i ∧ ops[e]? = some q ∧ kindOf P q.op = 2 ∧ Region.wanted q (ayielded ops (T e)) = true) ∧ ∀ e', e' < e → ¬ ∃ q, m ≤ e' ∧ e' < i ∧ ops[e']? = some q ∧ kindOf P q.op = 2 ∧ Region.wanted q (ayielded ops (T e')) = true := by
            obtain ⟨e, q, h⟩ := hex
            have : ∃ e, ∃ q, m ≤ e ∧ e < i ∧ ops[e]? = some q ∧ kindOf P q.op = 2 ∧ Region.wanted q (ayielded ops (T e)) = true := ⟨e, q, h⟩
            clear h
            obtain ⟨e, he⟩ := this
            induction e using Nat.strongRecOn with
            | _ e ih =>
              by_cases hlt : ∃ e', e' < e ∧ ∃ q, m ≤ e' ∧ e' < i ∧ ops[e']? = some q ∧ kindOf P q.op = 2 ∧ Region.wanted q (ayielded ops (T e')) = true
              · obtain ⟨e', h1, h2⟩ := hlt; exact ih e' h1 h2
              · exact ⟨e, he, fun e' h1 h2 => hlt ⟨e', h1, h2⟩⟩
          obtain ⟨e, ⟨q, h1, h2, h3, h4, h5⟩, hfirst⟩ := this
          have hme : Hh e = Hh m := same_at m e h1 (by omega) (fun j o g1 g2 g3 g4 g5 => hfirst j g2 ⟨o, g1, by omega, g3, g4, g5⟩)
          have hnS : listed.getD e false = false := by
            rw [Bool.eq_false_iff]; intro hs
            have := (heffs e q (by omega) h3 h4 h5).1 hs; omega
          have hfe := hfl e q (by omega) h3 h4 (by omega) (hap_of e q (by omega) h3 (by omega) (by rw [hnS]; simp; omega))
          have := (tr.old i o ty ad (by omega) hi ho hop hw e q (by omega) (by omega) h3 h4 h5 hfe).1 h2
          rw [← hme]; exact this
        · have hme : Hh i = Hh m := same_at m i hmi (by omega) (fun j o g1 g2 g3 g4 g5 => hex ⟨j, o, g1, g2, g3, g4, g5⟩)
          rw [← hme]; exact ha
      · by_cases hex : ∃ e q, i < e ∧ e < m ∧ ops[e]? = some q ∧ kindOf P q.op = 2 ∧ Region.wanted q (ayielded ops (T e)) = true
        · have : ∃ e, (∃ q, i < e ∧ e < m ∧ ops[e]? = some q ∧ kindOf P q.op = 2 ∧ Region.wanted q (ayielded ops (T e)) = true) ∧ ∀ e', e < e' → ¬ ∃ q, i < e' ∧ e' < m ∧ ops[e']? = some q ∧ kindOf P q.op = 2 ∧ Region.wanted q (ayielded ops (T e')) = true := by
            obtain ⟨e, q, h⟩ := hex
            have : ∃ d, ∃ e, m - e = d ∧ ∃ q, i < e ∧ e < m ∧ ops[e]? = some q ∧ kindOf P q.op = 2 ∧ Region.wanted q (ayielded ops (T e)) = true := ⟨m - e, e, rfl, q, h⟩
            clear h
            obtain ⟨d, hd'⟩ := this
            induction d using Nat.strongRecOn with
            | _ d ih =>
              obtain ⟨e, hde, he⟩ := hd'
              by_cases hgt : ∃ e', e < e' ∧ ∃ q, i < e' ∧ e' < m ∧ ops[e']? = some q ∧ kindOf P q.op = 2 ∧ Region.wanted q (ayielded ops (T e')) = true
              · obtain ⟨e', h1, q', h2⟩ := hgt
                exact ih (m - e') (by omega) ⟨e', rfl, q', h2⟩
              · exact ⟨e, he, fun e' h1 h2 => hgt ⟨e', h1, h2⟩⟩
          obtain ⟨e, ⟨q, h1, h2, h3, h4, h5⟩, hlast⟩ := this
          have hme : Hh m = Hh (e + 1) := same_at (e + 1) m (by omega) hm (fun j o g1 g2 g3 g4 g5 => hlast j (by omega) ⟨o, by omega, g2, g3, g4, g5⟩)
          have hsS : listed.getD e false = true := (heffs e q (by omega) h3 h4 h5).2 h2
          have hfe := hfl e q (by omega) h3 h4 (by omega) (hap_of e q (by omega) h3 (by omega) (by rw [hsS]; simp; omega))
          have := (tr.old i o ty ad (by omega) hi ho hop hw e q (by omega) (by omega) h3 h4 h5 hfe).2 h1
          rw [hme]; exact this
        · have hme : Hh m = Hh (i + 1) := same_at (i + 1) m (by omega) hm (fun j o g1 g2 g3 g4 g5 => hex ⟨j, o, by omega, g2, g3, g4, g5⟩)
          rw [hme, hh]; exact ha
    have hE := LRel.eval HH M.slots
    have hadOK : opndOK G ad = true := by
      have : ∀ x ∈ o.op.operands.toList, opndOK G x = true := List.all_eq_true.1 hoOK
      exact this ad (by rw [hop]; simp [Op.operands])
    rw [← head] at hnow
    obtain ⟨v', r1, _, r2⟩ := aload_sound HH (hE ad hadOK) hnow
    refine ⟨ρ, a.put o.dst v', w, ⟨slots' (.refl ρ) r2, ⟨m, hm, HH, keepm (Or.inl (by omega))⟩, M.kept, closed'⟩, put_defers _ _ _, fun _ _ => trivial, ⟨m, m, hm, hm, .refl _ _ _, HH, HH, heffs, keepm (Or.inl (by omega))⟩, .one (step_lone_go ?_)⟩
    have hnd : ∀ c, o.op ≠ .defer c := by intro c e; rw [hop] at e; simp at e
    rw [hg hw', Oper.semAt_eq _ _ _ hnd, ← hfin]
    simp [stepG.apply, execOp, hop, r1, Sem.runT_eq]
  | eff o' hi' hw hk ha =>
    rw [ho] at hi'; simp only [Option.some.injEq] at hi'; subst hi'
    -- all effects ahead of it are done, and none behind it
    have hall : ∀ j q, j < n → ops[j]? = some q → kindOf P q.op = 2 → j ≠ i → listed.getD j false = decide (j < i) := by
      intro j q hj hq h2 hne
      exact writers hn D M.closed hi ho hS hd (D.eff i o j q (by simpa using ho) (by simpa using hq) hne hk h2) hj hne
    have hmi : m ≤ i := by
      rcases Nat.lt_or_ge i m with e | e
      · have := (heffs i o hi ho hk hw).2 e; rw [hS] at this; simp at this
      · exact e
    have hHi : Hh i = Hh m := by
      have : ∀ q, m ≤ q → q ≤ i → Hh q = Hh m := by
        intro q
        induction q with
        | zero => intro h1 _; obtain rfl : m = 0 := by omega
                  rfl
        | succ q ih =>
          intro h1 h2
          by_cases e : m = q + 1
          · rw [e]
          · rw [← ih (by omega) (by omega)]
            cases tr.step q (by omega) (by omega) with
            | skip _ _ _ _ hh => exact hh
            | pure _ _ _ _ _ hh => exact hh
            | read _ _ _ _ _ _ _ _ hh => exact hh
            | eff o2 hi2 hw2 hk2 _ =>
              exfalso
              have h3 := hall q o2 (by omega) hi2 hk2 (by omega)
              have h4 := (heffs q o2 (by omega) hi2 hk2 hw2).1 (by rw [h3]; simp; omega)
              omega
      exact this i hmi (Nat.le_refl _)
    rw [hHi, ← aop_congr hops'] at ha
    obtain ⟨ρ', v', w', r1, r2, r3, r4⟩ := op_step hcall HH M.kept M.slots ho hoOK (by rw [hwant]; exact hw) ha (rest := rest) b k cs
    have heffs' : ∀ j q, j < n → ops[j]? = some q → kindOf P q.op = 2 → Region.wanted q (ayielded ops (T j)) = true → ((listed.setIfInBounds i true).getD j false = true ↔ j < i + 1) := by
      intro j q hj hq h2 hw2
      rw [hset]
      by_cases ej : j = i
      · subst ej; simp
      · rw [if_neg ej, hall j q hj hq h2 ej]; simp; omega
    exact ⟨ρ', a.put o.dst v', w', ⟨slots' r3.ext r1, ⟨i + 1, by omega, r2, heffs'⟩, r3.kept HH M.kept, closed'⟩, put_defers _ _ _, fun _ _ => trivial, ⟨m, i + 1, hm, by omega, r3, HH, r2, heffs, heffs'⟩, r4⟩
end Go.AM
