/-
  THE ABSTRACT EXECUTOR: a region that draws its order (3): the whole of it.
-/
import Derived.Test.YtknpjlcgjlnfbaaGreatDoorAm13
set_option linter.unusedSimpArgs false
set_option linter.unusedVariables false
namespace Go.AM
variable {P : Program} {G : Nat}

/-! ### Some slots left out -/
open Classical in
noncomputable def clr (D : Nat → Prop) (l : List Value) : List Value := (List.range l.length).map fun k => if D k then undef else l.getD k undef
theorem clr_length (D : Nat → Prop) (l : List Value) : (clr D l).length = l.length := by simp [clr]
theorem clr_get {D : Nat → Prop} {l : List Value} {k : Nat} (h : ¬ D k) : (clr D l)[k]? = l[k]? := by
  unfold clr
  rw [List.getElem?_map]
  by_cases hk : k < l.length
  · rw [List.getElem?_range hk, Option.map_some, if_neg h, List.getD_eq_getElem?_getD, List.getElem?_eq_getElem hk]; rfl
  · rw [List.getElem?_eq_none (by simpa using hk), List.getElem?_eq_none (by omega)]; rfl
open Classical in
theorem SOK.clr {ρ : Rho} {D : Nat → Prop} {t t' : List Value} (h : SOK ρ D t t') : LRel ρ (clr D t) (clr D t') := by
  refine .of_get (by rw [clr_length, clr_length]; exact h.1) (fun k hk hk' => ?_)
  rw [clr_length] at hk hk'
  have e1 : ∀ (l : List Value) (hl : k < (AM.clr D l).length), (AM.clr D l)[k] = if D k then undef else l.getD k undef := by
    intro l hl
    simp only [AM.clr, List.getElem_map]
    rw [List.getElem_range]
  rw [e1, e1]
  by_cases hD : D k
  · rw [if_pos hD, if_pos hD]; exact .undef ρ
  · rw [if_neg hD, if_neg hD]
    obtain ⟨v', h1, h2⟩ := h.2 k t[k] (by simp [hk]) hD
    rw [List.getD_eq_getElem?_getD, List.getD_eq_getElem?_getD, h1, List.getElem?_eq_getElem hk]
    exact h2
theorem SOK.full {ρ : Rho} {D : Nat → Prop} {t t' : List Value} (h : SOK ρ D t t') (hD : ∀ k, ¬ D k) : LRel ρ t t' := by
  refine .of_get h.1 (fun k hk hk' => ?_)
  obtain ⟨v', h1, h2⟩ := h.2 k t[k] (by simp [hk]) (hD k)
  rw [List.getElem?_eq_getElem hk'] at h1
  simp only [Option.some.injEq] at h1
  rw [h1]; exact h2

noncomputable def actC (D : Nat → Prop) (a : Act) : Act := { a with tmps := (clr D a.tmps.toList).toArray }
theorem actC_get {D : Nat → Prop} {a : Act} {k : Nat} (h : ¬ D k) : (actC D a).tmps[k]? = a.tmps[k]? := by
  have := clr_get (l := a.tmps.toList) h
  simpa [actC] using this
theorem actC_eval {D : Nat → Prop} {a : Act} {x : Operand} (h : ∀ k, tmpOf x = some k → ¬ D k) : a.eval x = (actC D a).eval x := by
  cases x with
  | tmp k =>
    have := actC_get (a := a) (h k rfl)
    simp only [Act.eval, Array.getD_eq_getD_getElem?]
    rw [this]
  | _ => rfl
theorem actC_wanted {D : Nat → Prop} {a : Act} {ops : Array Oper} {o : Oper} (h : ∀ k ∈ looksAt ops.toList o, ¬ D k) : Region.wanted o (yielded ops a.tmps) = Region.wanted o (yielded ops (actC D a).tmps) := by
  unfold Region.wanted
  cases hg : o.guard with
  | none => rfl
  | some g =>
    obtain ⟨j, want⟩ := g
    show (yielded ops a.tmps j == some want) = (yielded ops (actC D a).tmps j == some want)
    have : yielded ops a.tmps j = yielded ops (actC D a).tmps j := by
      unfold yielded
      cases hd : (ops[j]?).bind (·.dst) with
      | none => rfl
      | some d =>
        have hm : d ∈ looksAt ops.toList o := by
          unfold looksAt
          rw [hg]
          simp only [List.mem_append]
          right
          have : (ops.toList[j]?).bind (·.dst) = some d := by simpa using hd
          rw [this]; simp
        simp only [Option.bind_some]
        rw [actC_get (h d hm)]
    rw [this]

theorem HRel.junk' {ρ : Rho} {h : AHeap} {w : World} (H : HRel G ρ h w) (o : Obj) : HRel G ρ h (w.alloc o) ∧ Fr ρ h w ρ h (w.alloc o) := by
  refine ⟨⟨H.dom, fun b x p hb hp => (H.obj b x p hb hp).mono (.refl ρ) (fun _ => heap_push_old w o (H.lt b p hp)), fun b p hp => by have := H.lt b p hp; simp; omega, H.bd, H.sep, H.glob, H.gown, by have := H.gsz; simp; omega⟩,
    ⟨.refl ρ, by simp, rfl, rfl, rfl, fun b x p hb hx hp _ => ⟨b, x, p, hb, hx, hp, rfl⟩, fun b x p hb hx hp _ => ⟨b, x, p, hb, hx, hp, rfl⟩, fun c hc _ => heap_push_old w o hc⟩⟩

/-- What may run next looks at no slot that is not yet told of. -/
theorem Mid.clean {W0 : World} {ops : Array Oper} {n : Nat} {T : Nat → List Value} {Hh : Nat → AHeap} {V : Nat → Value} {S : Nat → Bool} {ρ0 ρ : Rho} {w0 : World} {a : Act} {w : World} {m : Nat} {pl : Nat → Pl}
    (hn : ops.size = n) (D : DrawOK P ops.toList) (M : Mid P G W0 ops n T Hh V S ρ0 w0 ρ a w m pl) (X : MaxM P ops T n S m) {i : Nat} {o : Oper} (hi : i < n) (ho : ops[i]? = some o) (hS : S i = false)
    (hd : ∀ e ∈ o.after.toList, Region.binds .any e = true → S e.on = true) : ∀ k ∈ looksAt ops.toList o, ¬ PendSlot P ops T n S m k := by
  rintro k hk ⟨j, ⟨hmj, hjn, hSj, q, hq, hq2, hqw⟩, hdj⟩
  have hne : j ≠ i := fun e => by rw [e, hS] at hSj; simp at hSj
  have hd2 : q.dst = some k := by simpa [dstOf, hq] using hdj
  have hap := D.slot i o j q k (by simpa using ho) (by simpa using hq) hne hd2 hk
  have hw := writers hn D M.closed hi ho hS hd hap hjn hne
  rw [hSj] at hw
  have hji : j < i := by simpa using hw.symm
  have hbit : ((befs ops.toList []).getD i 0).testBit j = true := by
    unfold apartOf at hap; rw [if_pos hji] at hap; exact hap
  have hal := M.high j q ⟨hmj, hjn, hSj, q, hq, hq2, hqw⟩ hq
  obtain ⟨⟨qm, hqm, hqm2, _⟩, hSm⟩ := X (by omega)
  have hmj' : m < j := by
    rcases Nat.lt_or_ge m j with h | h
    · exact h
    · have : m = j := by omega
      rw [this, hSj] at hSm; simp at hSm
  have : S m = true := by
    rcases D.dep j q (by simpa using hq) hal with h | h
    · exact bits_in hn D M.closed j q hjn hq (fun e he hb => M.closed j q hjn hq hSj e he hb) m (h m qm hmj' (by simpa using hqm) hqm2)
    · exact bits_in hn D M.closed i o hi ho hd m (h i (by simpa [hn] using hi) hbit m qm hmj' (by simpa using hqm) hqm2)
  rw [hSm] at this; simp at this

theorem Mid.look {W0 : World} {call : ACall} {ops : Array Oper} {n : Nat} {T : Nat → List Value} {Hh : Nat → AHeap} {V : Nat → Value} {S : Nat → Bool} {ρ0 ρ : Rho} {w0 : World} {a : Act} {w : World} {m : Nat} {pl : Nat → Pl}
    (hn : ops.size = n) (D : DrawOK P ops.toList) (tr : Trace P call ops 0 n T Hh V) (M : Mid P G W0 ops n T Hh V S ρ0 w0 ρ a w m pl) {i : Nat} {o : Oper} (hi : i < n) (ho : ops[i]? = some o) (hS : S i = false)
    (hd : ∀ e ∈ o.after.toList, Region.binds .any e = true → S e.on = true) : ∀ k ∈ looksAt ops.toList o, (slotsOf ops V (T 0) S n)[k]? = (T i)[k]? := by
  intro k hk
  rw [← slots_trace tr n i (Nat.le_refl _) (by omega)]
  refine slotsOf_congr n (fun j hj hdst => ?_)
  by_cases e : j = i
  · subst e; rw [hS]; simp
  · have hjo : ops[j]? = some ops[j] := by simp
    have hd2 : ops[j].dst = some k := by simpa [dstOf, hjo] using hdst
    have := D.slot i o j ops[j] k (by simpa using ho) (by simp) e hd2 hk
    exact writers hn D M.closed hi ho hS hd this hj e

theorem put_get {a : Act} {d : Option Tmp} {v : Value} {k : Nat} : (a.put d v).tmps[k]? = if d = some k ∧ k < a.tmps.size then some v else a.tmps[k]? := by
  cases d with
  | none => simp [Act.put]
  | some d =>
    simp only [Act.put, Array.getElem?_setIfInBounds, Option.some.injEq]
    by_cases h : d = k
    · subst h
      by_cases h2 : d < a.tmps.size
      · simp [h2]
      · simp [h2]
    · simp [h]
theorem put_size (a : Act) (d : Option Tmp) (v : Value) : (a.put d v).tmps.size = a.tmps.size := by cases d <;> simp [Act.put]

/-- One more operation. -/
theorem Mid.one {W0 : World} {call : ACall} (hcall : CallOK P G W0 call) {ops : Array Oper} (hops : ops.toList.all (operOK G) = true) {n : Nat} {T : Nat → List Value} {Hh : Nat → AHeap} {V : Nat → Value} {listed : Array Bool} {ρ0 ρ : Rho} {w0 : World} {a : Act} {w : World} {m : Nat} {pl : Nat → Pl}
    (hn : ops.size = n) (hls : listed.size = n) (D : DrawOK P ops.toList) (tr : Trace P call ops 0 n T Hh V) (hG : G ≤ w0.heap.size) (M : Mid P G W0 ops n T Hh V (fun j => listed.getD j false) ρ0 w0 ρ a w m pl) (X : MaxM P ops T n (fun j => listed.getD j false) m)
    {i : Nat} {o : Oper} (hi : i < n) (ho : ops[i]? = some o) (hS : listed.getD i false = false) (hd : ∀ e ∈ o.after.toList, Region.binds .any e = true → listed.getD e.on false = true)
    (b : Frame) (k : List Item) (cs : List Frame) (rest : List Nat) :
    ∃ (ρ' : Rho) (a' : Act) (w' : World) (m' : Nat) (pl' : Nat → Pl), Mid P G W0 ops n T Hh V (fun j => (listed.setIfInBounds i true).getD j false) ρ0 w0 ρ' a' w' m' pl' ∧ MaxM P ops T n (fun j => (listed.setIfInBounds i true).getD j false) m' ∧ a'.defers = a.defers ∧
      Steps P (lone (b.atR a (.inRegion ops (i :: rest) :: k)) cs w) (lone (b.atR a' (.inRegion ops rest :: k)) cs w') := by
  have hlook := M.look hn D tr hi ho hS hd
  have hclean := M.clean hn D X hi ho hS hd
  have hops' := operands_congr hlook
  have hwant := wanted_congr (ops := ops) (o := o) hlook
  have hoOK : operOK G o = true := List.all_eq_true.1 hops o (by rw [Array.mem_toList_iff]; exact Array.mem_of_getElem? ho)
  have hset : ∀ j, (listed.setIfInBounds i true).getD j false = if j = i then true else listed.getD j false := fun j => setS (by omega)
  generalize hDe : PendSlot P ops T n (fun j => listed.getD j false) m = Dp at *
  have hopn : ∀ x ∈ o.op.operands.toList, ∀ q, tmpOf x = some q → q ∈ looksAt ops.toList o := by
    intro x hx q hq
    unfold looksAt
    simp only [List.mem_append, List.mem_filterMap]
    exact Or.inl (Or.inr ⟨x, hx, hq⟩)
  have hown : ∀ d, o.dst = some d → d ∈ looksAt ops.toList o := by
    intro d h; unfold looksAt; rw [h]; simp
  -- with the slots that are not told of left out
  have hL : LRel ρ (clr Dp (slotsOf ops V (T 0) (fun j => listed.getD j false) n)) (actC Dp a).tmps.toList := by
    have := M.slots; rw [hDe] at this; simpa [actC] using this.clr
  have hec : ∀ x ∈ o.op.operands, a.eval x = (actC Dp a).eval x := fun x hx => actC_eval (fun q hq => hclean q (hopn x (by simpa using hx) q hq))
  have hea : ∀ x ∈ o.op.operands.toList, aeval (clr Dp (slotsOf ops V (T 0) (fun j => listed.getD j false) n)) x = aeval (T i) x := by
    intro x hx
    rw [← hops' x hx]
    exact aeval_congr (fun q hq => clr_get (hclean q (hopn x hx q hq)))
  have hwy : Region.wanted o (yielded ops a.tmps) = Region.wanted o (ayielded ops (T i)) := by
    rw [actC_wanted (D := Dp) hclean, yielded_eq hL, ← hwant]
    exact wanted_congr (fun q hq => clr_get (hclean q hq))
  have hE := LRel.eval M.heap hL
  -- the slots behind it
  have eqS : slotsOf ops V (T 0) (fun j => (listed.setIfInBounds i true).getD j false) n = aput (slotsOf ops V (T 0) (fun j => listed.getD j false) n) o.dst (V i) := by
    apply List.ext_getElem?
    intro q
    rw [aput_get, slotsOf_length]
    by_cases hq : o.dst = some q
    · have h1 : (slotsOf ops V (T 0) (fun j => (listed.setIfInBounds i true).getD j false) n)[q]? = (slotsOf ops V (T 0) (fun j => j < i + 1) n)[q]? := by
        refine slotsOf_congr n (fun j hj hdst => ?_)
        try simp only []
        rw [hset]
        by_cases ej : j = i
        · subst ej; simp
        · rw [if_neg ej]
          have hd2 : ops[j].dst = some q := by simpa [dstOf, show ops[j]? = some ops[j] by simp] using hdst
          have hap := D.slot i o j ops[j] q (by simpa using ho) (by simp) ej hd2 (hown q hq)
          have := writers hn D M.closed hi ho hS hd hap hj ej
          rw [this]; simp; omega
      rw [h1, slots_trace tr n (i + 1) (Nat.le_refl _) (by omega), tr.next i (by omega) hi]
      have : dstOf ops i = some q := by simp [dstOf, ho, hq]
      rw [this, aput_get]
      have hl : (T i).length = (T 0).length := by rw [← slots_trace tr n i (Nat.le_refl _) (by omega), slotsOf_length]
      rw [hl]
      simp only [hq, true_and]
      by_cases hlt : q < (T 0).length
      · rw [if_pos hlt, if_pos hlt]
      · rw [if_neg hlt, if_neg hlt]
        rw [List.getElem?_eq_none (by omega), List.getElem?_eq_none (by rw [slotsOf_length]; omega)]
    · rw [if_neg (fun e => hq e.1)]
      refine slotsOf_congr n (fun j hj hdst => ?_)
      try simp only []
      rw [hset]
      by_cases ej : j = i
      · subst ej
        exfalso; apply hq
        simpa [dstOf, ho] using hdst
      · rw [if_neg ej]
  have closed' : ∀ j q, j < n → ops[j]? = some q → (listed.setIfInBounds i true).getD j false = true → ∀ e ∈ q.after.toList, Region.binds .any e = true → (listed.setIfInBounds i true).getD e.on false = true := by
    intro j q hj hq hSj e he hb
    rw [hset] at hSj ⊢
    by_cases ej : j = i
    · subst ej
      rw [ho] at hq; simp only [Option.some.injEq] at hq; subst hq
      have := hd e he hb
      split
      · rfl
      · exact this
    · rw [if_neg ej] at hSj
      have := M.closed j q hj hq hSj e he hb
      split
      · rfl
      · exact this
  -- what was not told of is still there
  have hdne : ∀ j q, Pend P ops T n (fun j => listed.getD j false) m j → dstOf ops j = some q → o.dst ≠ some q := by
    intro j q hj hq h
    refine hclean q (hown q h) ?_
    rw [← hDe]; exact ⟨j, hj, hq⟩
  have hlast : ∀ j, Pend P ops T n (fun j => listed.getD j false) m j → ∀ j' q, j' < n → (listed.setIfInBounds i true).getD j' false = true → dstOf ops j = some q → dstOf ops j' = some q → j' ≤ j := by
    intro j hj j' q h1 h2 h3 h4
    try simp only [] at h2
    rw [hset] at h2
    by_cases e : j' = i
    · subst e; exact absurd (by simpa [dstOf, ho] using h4) (hdne j q hj h3)
    · rw [if_neg e] at h2; exact (M.pend j hj).last j' q h1 h2 h3 h4
  -- the slots, where they are told of
  have slots' : ∀ {ρ' : Rho} {v' : Value} {Dq : Nat → Prop}, RhoLe ρ ρ' → (∀ q, o.dst = some q → ¬ Dq q → VRel ρ' (V i) v') → (∀ q, ¬ Dq q → o.dst ≠ some q → ¬ Dp q) →
      SOK ρ' Dq (slotsOf ops V (T 0) (fun j => (listed.setIfInBounds i true).getD j false) n) (a.put o.dst v').tmps.toList := by
    intro ρ' v' Dq hle hv hD
    have hsl := M.slots
    rw [hDe] at hsl
    refine ⟨?_, fun q v hq hnq => ?_⟩
    · have := hsl.1
      rw [slotsOf_length] at this ⊢
      simp only [Array.length_toList] at this ⊢
      rw [put_size]; exact this
    · rw [eqS, aput_get] at hq
      have hp := put_get (a := a) (d := o.dst) (v := v') (k := q)
      by_cases hc : o.dst = some q
      · split at hq
        · rename_i h2
          simp only [Option.some.injEq] at hq; subst hq
          refine ⟨v', ?_, hv q hc hnq⟩
          have hsz : q < a.tmps.size := by
            have := hsl.1; simp only [Array.length_toList] at this; omega
          rw [if_pos ⟨hc, hsz⟩] at hp
          simpa using hp
        · rename_i h2
          exfalso; apply h2
          refine ⟨hc, ?_⟩
          exact (List.getElem?_eq_some_iff.1 hq).1
      · rw [if_neg (fun h => hc h.1)] at hq hp
        obtain ⟨u, h1, h2⟩ := hsl.2 q v hq (hD q hnq hc)
        exact ⟨u, by rw [Array.getElem?_toList] at h1 ⊢; rw [hp]; exact h1, h2.mono hle⟩
  -- an operation that is no effect
  have still : ¬ Eff P ops T i → ∀ v', VRel ρ (V i) v' → Mid P G W0 ops n T Hh V (fun j => (listed.setIfInBounds i true).getD j false) ρ0 w0 ρ (a.put o.dst v') w m pl ∧ MaxM P ops T n (fun j => (listed.setIfInBounds i true).getD j false) m := by
    intro hnE v' hv
    have hpe : ∀ j, Pend P ops T n (fun j => (listed.setIfInBounds i true).getD j false) m j → Pend P ops T n (fun j => listed.getD j false) m j := by
      rintro j ⟨h1, h2, h3, h4⟩
      have hne : j ≠ i := fun e => hnE (e ▸ h4)
      try simp only [] at h3
      rw [hset, if_neg hne] at h3
      exact ⟨h1, h2, h3, h4⟩
    have hpe' : ∀ j, Pend P ops T n (fun j => listed.getD j false) m j → Pend P ops T n (fun j => (listed.setIfInBounds i true).getD j false) m j := by
      rintro j ⟨h1, h2, h3, h4⟩
      have hne : j ≠ i := fun e => hnE (e ▸ h4)
      exact ⟨h1, h2, by (try simp only []); rw [hset, if_neg hne]; exact h3, h4⟩
    refine ⟨⟨M.le, slots' (.refl ρ) (fun _ _ _ => hv) (fun q hq _ h => ?_), M.heap, ?_, fun j q hp hq => M.high j q (hpe j hp) hq, M.kept, closed', ?_, fun j j' h1 h2 => M.dist j j' (hpe j h1) (hpe j' h2), M.fr⟩, ?_⟩
    · rw [← hDe] at h
      obtain ⟨j, hj, hdj⟩ := h
      exact hq ⟨j, hpe' j hj, hdj⟩
    · intro j hj hE'
      try simp only []
      rw [hset]
      split
      · rfl
      · exact M.low j hj hE'
    · intro j hj
      have F := M.pend j (hpe j hj)
      obtain ⟨u, u1, u2⟩ := F.val
      refine ⟨F.lt, F.ge, F.free, F.obj, ⟨u, fun q hq hlt => ?_, u2⟩, hlast j (hpe j hj)⟩
      rw [put_size] at hlt
      rw [put_get, if_neg (fun h => hdne j q (hpe j hj) hq h.1)]
      exact u1 q hq hlt
    · intro hm
      obtain ⟨h1, h2⟩ := X hm
      refine ⟨h1, ?_⟩
      try simp only []
      rw [hset, if_neg (fun e => hnE (by rw [← e]; exact h1))]
      exact h2
  have hstep := tr.step i (by omega) hi
  have hg := fun hw' => stepGR_op (P := P) (b := b) (a := a) (k := k) (cs := cs) (w := w) (rest := rest) ho hw'
  have hfin : ∀ u, (b.atR a (.inRegion ops (i :: rest) :: k)).finish u = b.atR (a.put o.dst u) (.inRegion ops rest :: k) := by
    intro u; rw [Frame.finish_atR, ho]; rfl
  cases hstep with
  | skip o' hi' hw hv hh =>
    rw [ho] at hi'; simp only [Option.some.injEq] at hi'; subst hi'
    have hw' : Region.wanted o (yielded ops a.tmps) = false := by rw [hwy]; exact hw
    have hnE : ¬ Eff P ops T i := by
      rintro ⟨q, hq, _, hqw⟩
      rw [ho] at hq; simp only [Option.some.injEq] at hq; subst hq
      rw [hw] at hqw; simp at hqw
    obtain ⟨M', X'⟩ := still hnE undef (by rw [hv]; exact .undef ρ)
    refine ⟨ρ, a.put o.dst undef, w, m, pl, M', X', put_defers _ _ _, .one ?_⟩
    have := stepR_op_skip (P := P) (b := b) (a := a) (k := k) (cs := cs) (w := w) (ops := ops) (i := i) (rest := rest) (by simp [ho, hw'])
    rw [ho] at this
    exact this
  | pure o' hi' hw hk ha hh =>
    rw [ho] at hi'; simp only [Option.some.injEq] at hi'; subst hi'
    have hw' : Region.wanted o (yielded ops a.tmps) = true := by rw [hwy]; exact hw
    have hnE : ¬ Eff P ops T i := by
      rintro ⟨q, hq, hq2, _⟩
      rw [ho] at hq; simp only [Option.some.injEq] at hq; subst hq
      omega
    rw [← apure_congr hea] at ha
    obtain ⟨v', r1, r2⟩ := apure_sound hE hoOK ha
    obtain ⟨M', X'⟩ := still hnE v' r2
    refine ⟨ρ, a.put o.dst v', w, m, pl, M', X', put_defers _ _ _, .one (step_lone_go ?_)⟩
    have hnd : ∀ c, o.op ≠ .defer c := by intro c e; rw [e] at hk; simp [kindOf] at hk
    have hns : ∀ c d, o.op ≠ .select c d := by intro c d e; rw [e] at hk; simp [kindOf] at hk
    rw [hg hw', Oper.semAt_eq _ _ _ hnd, execOp_congr o hns hec, ← hfin]
    simp [stepG.apply, r1, Sem.runT_eq]
  | read o' ty ad hi' hw hk hop ha hh =>
    rw [ho] at hi'; simp only [Option.some.injEq] at hi'; subst hi'
    have hw' : Region.wanted o (yielded ops a.tmps) = true := by rw [hwy]; exact hw
    have hnE : ¬ Eff P ops T i := by
      rintro ⟨q, hq, hq2, _⟩
      rw [ho] at hq; simp only [Option.some.injEq] at hq; subst hq
      omega
    have head : aeval (clr Dp (slotsOf ops V (T 0) (fun j => listed.getD j false) n)) ad = aeval (T i) ad := hea ad (by rw [hop]; simp [Op.operands])
    -- what it reads now is what it reads in the text's order
    have hnow : aload P (Hh m) ty (aeval (T i) ad) = some (V i) := by
      have same_at : ∀ p q, p ≤ q → q ≤ n → (∀ j, p ≤ j → j < q → ¬ Eff P ops T j) → Hh q = Hh p := by
        intro p q hpq
        induction q with
        | zero => intro _ _; obtain rfl : p = 0 := by omega
                  rfl
        | succ q ih =>
          intro hq hno
          by_cases e : p = q + 1
          · rw [e]
          · have h1 := ih (by omega) (by omega) (fun j h1 h2 => hno j h1 (by omega))
            rw [← h1]
            exact step_still (tr.step q (by omega) (by omega)) (hno q (by omega) (by omega))
      have hfl : ∀ e q, e < n → ops[e]? = some q → kindOf P q.op = 2 → e ≠ i → apartOf (befs ops.toList []) i e = false → e ∈ floats P ops i := by
        intro e q he hq h2 hne hap
        unfold floats
        rw [List.mem_filter]
        refine ⟨List.mem_range.2 (by simp; omega), ?_⟩
        have : ops.toList[e]? = some q := by simpa using hq
        rw [this]
        simp [h2, hne, hap]
      have hap_of : ∀ e q, e < n → ops[e]? = some q → e ≠ i → ¬ (listed.getD e false = decide (e < i)) → apartOf (befs ops.toList []) i e = false := by
        intro e q he hq hne hx
        rw [Bool.eq_false_iff]
        intro hap
        exact hx (writers hn D M.closed hi ho hS hd hap he hne)
      by_cases hmi : m ≤ i
      · by_cases hmi2 : m < i
        · obtain ⟨⟨q, h3, h4, h5⟩, hnS⟩ := X (by omega)
          have hfe := hfl m q (by omega) h3 h4 (by omega) (hap_of m q (by omega) h3 (by omega) (by
            have hnS' : listed.getD m false = false := hnS
            rw [hnS']; simp; omega))
          exact (tr.old i o ty ad (by omega) hi ho hop hw m q (by omega) (by omega) h3 h4 h5 hfe).1 hmi2
        · obtain rfl : m = i := by omega
          exact ha
      · by_cases hex : ∃ e q, i < e ∧ e < m ∧ ops[e]? = some q ∧ kindOf P q.op = 2 ∧ Region.wanted q (ayielded ops (T e)) = true
        · have : ∃ e, (∃ q, i < e ∧ e < m ∧ ops[e]? = some q ∧ kindOf P q.op = 2 ∧ Region.wanted q (ayielded ops (T e)) = true) ∧ ∀ e', e < e' → ¬ ∃ q, i < e' ∧ e' < m ∧ ops[e']? = some q ∧ kindOf P q.op = 2 ∧ Region.wanted q (ayielded ops (T e')) = true := by
            obtain ⟨e, q, h⟩ := hex
            have : ∃ d, ∃ e, m - e = d ∧ ∃ q, i < e ∧ e < m ∧ ops[e]? = some q ∧ kindOf P q.op = 2 ∧ Region.wanted q (ayielded ops (T e)) = true := ⟨m - e, e, rfl, q, h⟩
            clear h
            obtain ⟨d, hd'⟩ := this
            induction d using Nat.strongRecOn with
            | _ d ih =>
              obtain ⟨e, hde, he⟩ := hd'
              by_cases hgt : ∃ e', e < e' ∧ ∃ q, i < e' ∧ e' < m ∧ ops[e']? = some q ∧ kindOf P q.op = 2 ∧ Region.wanted q (ayielded ops (T e')) = true
              · obtain ⟨e', h1, q', h2⟩ := hgt
                exact ih (m - e') (by omega) ⟨e', rfl, q', h2⟩
              · exact ⟨e, he, fun e' h1 h2 => hgt ⟨e', h1, h2⟩⟩
          obtain ⟨e, ⟨q, h1, h2, h3, h4, h5⟩, hlast⟩ := this
          have hme : Hh m = Hh (e + 1) := same_at (e + 1) m (by omega) M.le (fun j g1 g2 ⟨o2, g3, g4, g5⟩ => hlast j (by omega) ⟨o2, by omega, g2, g3, g4, g5⟩)
          have hsS : listed.getD e false = true := M.low e h2 ⟨q, h3, h4, h5⟩
          have hfe := hfl e q (by have := M.le; omega) h3 h4 (by omega) (hap_of e q (by have := M.le; omega) h3 (by omega) (by rw [hsS]; simp; omega))
          have := (tr.old i o ty ad (by omega) hi ho hop hw e q (by omega) (by have := M.le; omega) h3 h4 h5 hfe).2 h1
          rw [hme]; exact this
        · have hme : Hh m = Hh (i + 1) := same_at (i + 1) m (by omega) M.le (fun j g1 g2 ⟨o2, g3, g4, g5⟩ => hex ⟨j, o2, by omega, g2, g3, g4, g5⟩)
          rw [hme, hh]; exact ha
    have hadOK : opndOK G ad = true := by
      have : ∀ x ∈ o.op.operands.toList, opndOK G x = true := List.all_eq_true.1 hoOK
      exact this ad (by rw [hop]; simp [Op.operands])
    rw [← head] at hnow
    obtain ⟨v', r1, _, r2⟩ := aload_sound M.heap (hE ad hadOK) hnow
    obtain ⟨M', X'⟩ := still hnE v' r2
    refine ⟨ρ, a.put o.dst v', w, m, pl, M', X', put_defers _ _ _, .one (step_lone_go ?_)⟩
    have hnd : ∀ c, o.op ≠ .defer c := by intro c e; rw [hop] at e; simp at e
    have hns : ∀ c d, o.op ≠ .select c d := by intro c d e; rw [hop] at e; simp at e
    rw [hg hw', Oper.semAt_eq _ _ _ hnd, execOp_congr o hns hec, ← hfin]
    simp [stepG.apply, execOp, hop, r1, Sem.runT_eq]
  | look o' hi' hw hk hnl ha hfl hh =>
    rw [ho] at hi'; simp only [Option.some.injEq] at hi'; subst hi'
    have hw' : Region.wanted o (yielded ops a.tmps) = true := by rw [hwy]; exact hw
    have hnE : ¬ Eff P ops T i := by
      rintro ⟨q, hq, hq2, _⟩
      rw [ho] at hq; simp only [Option.some.injEq] at hq; subst hq
      omega
    -- all effects stand before or behind it
    have hall : ∀ e, e < n → Eff P ops T e → listed.getD e false = decide (e < i) := by
      rintro e he ⟨q, hq, hq2, hqw⟩
      have hne : e ≠ i := fun h => hnE (h ▸ ⟨q, hq, hq2, hqw⟩)
      refine writers hn D M.closed hi ho hS hd ?_ he hne
      rcases hap : apartOf (befs ops.toList []) i e with _ | _
      · exfalso
        have : e ∈ floats P ops i := by
          unfold floats
          rw [List.mem_filter]
          refine ⟨List.mem_range.2 (by simp; omega), ?_⟩
          have h3 : ops.toList[e]? = some q := by simpa using hq
          rw [h3]
          simp [hq2, hne, hap]
        rw [hfl] at this; simp at this
      · rfl
    have hHm : Hh m = Hh i := by
      have key : ∀ p q, p ≤ q → q ≤ n → (∀ j, p ≤ j → j < q → ¬ Eff P ops T j) → Hh q = Hh p := by
        intro p q hpq
        induction q with
        | zero => intro _ _; obtain rfl : p = 0 := by omega
                  rfl
        | succ q ih =>
          intro hq hno
          by_cases e : p = q + 1
          · rw [e]
          · have h1 := ih (by omega) (by omega) (fun j h1 h2 => hno j h1 (by omega))
            rw [← h1]
            exact step_still (tr.step q (by omega) (by omega)) (hno q (by omega) (by omega))
      rcases Nat.le_total m i with h | h
      · refine (key m i h (by omega) (fun j h1 h2 hEj => ?_)).symm
        have hX := X (by omega)
        have h3 := hall m (by omega) hX.1
        have h4 : listed.getD m false = false := hX.2
        rw [h4] at h3
        have : ¬ m < i := by simpa using h3.symm
        omega
      · refine key i m h M.le (fun j h1 h2 hEj => ?_)
        have h3 := M.low j h2 hEj
        have h4 := hall j (by have := M.le; omega) hEj
        have h5 : listed.getD j false = true := h3
        rw [h5] at h4
        have : j < i := by simpa using h4.symm
        omega
    rw [← hHm, ← aread_congr hea] at ha
    obtain ⟨v', r1, r2⟩ := aread_sound hE M.heap hoOK ha
    obtain ⟨M', X'⟩ := still hnE v' r2
    refine ⟨ρ, a.put o.dst v', w, m, pl, M', X', put_defers _ _ _, .one (step_lone_go ?_)⟩
    have hnd : ∀ c, o.op ≠ .defer c := by intro c e; rw [e] at hk; simp [kindOf] at hk
    have hns : ∀ c d, o.op ≠ .select c d := by intro c d e; rw [e] at hk; simp [kindOf] at hk
    rw [hg hw', Oper.semAt_eq _ _ _ hnd, execOp_congr o hns hec, ← hfin]
    simp [stepG.apply, r1, Sem.runT_eq]
  | eff o' hi' hw hk ha =>
    rw [ho] at hi'; simp only [Option.some.injEq] at hi'; subst hi'
    have hw' : Region.wanted o (yielded ops a.tmps) = true := by rw [hwy]; exact hw
    have hEi : Eff P ops T i := ⟨o, ho, hk, hw⟩
    have hmi : m ≤ i := by
      rcases Nat.lt_or_ge i m with e | e
      · have h1 : listed.getD i false = true := M.low i e hEi
        rw [hS] at h1; simp at h1
      · exact e
    rw [← aop_congr hea] at ha
    by_cases hlt : m < i
    · -- a new object, ahead of what is told before it
      obtain ⟨⟨qm, hqm, hqm2, hqmw⟩, hSm⟩ := X (by omega)
      have hal : isAl o.op = true := by
        rcases D.eff i o m qm (by simpa using ho) (by simpa using hqm) (by omega) hk hqm2 with h | ⟨_, h⟩ | ⟨h, _⟩
        · have h1 := writers hn D M.closed hi ho hS hd h (by omega) (by omega)
          have h2 : listed.getD m false = false := hSm
          rw [h2] at h1
          have : ¬ m < i := by simpa using h1.symm
          omega
        · exact h
        · omega
      obtain ⟨mk, x, e1, e2, A⟩ := aal_sound hE hoOK hal ha
      obtain ⟨v', oc, sh, en, r1, r2, r3, r4⟩ := A w
      obtain ⟨J1, J2⟩ := M.heap.junk' oc
      have hpe : ∀ j, Pend P ops T n (fun j => (listed.setIfInBounds i true).getD j false) m j → j = i ∨ (j ≠ i ∧ Pend P ops T n (fun j => listed.getD j false) m j) := by
        rintro j ⟨h1, h2, h3, h4⟩
        by_cases e : j = i
        · exact Or.inl e
        · try simp only [] at h3
          rw [hset, if_neg e] at h3
          exact Or.inr ⟨e, h1, h2, h3, h4⟩
      have hpe' : ∀ j, Pend P ops T n (fun j => listed.getD j false) m j → Pend P ops T n (fun j => (listed.setIfInBounds i true).getD j false) m j := by
        rintro j ⟨h1, h2, h3, h4⟩
        refine ⟨h1, h2, ?_, h4⟩
        try simp only []
        rw [hset]
        split
        · rfl
        · exact h3
      have hPi : Pend P ops T n (fun j => (listed.setIfInBounds i true).getD j false) m i := ⟨hmi, hi, by (try simp only []); rw [hset, if_pos rfl], hEi⟩
      refine ⟨ρ, a.put o.dst v', w.alloc oc, m, fun j => if j = i then ⟨w.heap.size, sh, en⟩ else pl j, ⟨M.le, slots' (.refl ρ) (fun q hq hnq => absurd ⟨i, hPi, by simpa [dstOf, ho] using hq⟩ hnq) (fun q hq hne h => ?_), J1, ?_, ?_, J2.kept M.heap M.kept, closed', ?_, ?_, M.fr.trans J2⟩, ?_, put_defers _ _ _, .one (step_lone_go ?_)⟩
      · rw [← hDe] at h
        obtain ⟨j, hj, hdj⟩ := h
        exact hq ⟨j, hpe' j hj, hdj⟩
      · intro j hj hE'
        try simp only []
        rw [hset]
        split
        · rfl
        · exact M.low j hj hE'
      · intro j q hp hq
        rcases hpe j hp with rfl | ⟨_, hp⟩
        · rw [ho] at hq; simp only [Option.some.injEq] at hq; subst hq; exact hal
        · exact M.high j q hp hq
      · intro j hj
        rcases hpe j hj with rfl | ⟨hne, hj'⟩
        · rw [if_pos rfl]
          refine ⟨by simp, M.fr.size, ?_, ⟨x, e2, r2, r3 ρ _ (.refl ρ) (heap_push_new w oc)⟩, ⟨v', ?_, ?_⟩, ?_⟩
          · intro b' o' q' hb' ho' hq'
            have := M.heap.lt b' q' hq'
            simp only; omega
          · intro q hq hlt2
            rw [put_size] at hlt2
            have hdq : o.dst = some q := by simpa [dstOf, ho] using hq
            rw [put_get, if_pos ⟨hdq, hlt2⟩]
          · intro ρ' hρ'
            rw [e1]; exact r4 ρ' _ hρ'
          · intro j' q h1 h2 h3 h4
            try simp only [] at h2
            rw [hset] at h2
            by_cases e : j' = j
            · omega
            · rw [if_neg e] at h2
              have hd2 : ops[j'].dst = some q := by simpa [dstOf, show ops[j']? = some ops[j'] by simp] using h4
              have hdq : o.dst = some q := by simpa [dstOf, ho] using h3
              have hap := D.slot j o j' ops[j'] q (by simpa using ho) (by simp) e hd2 (hown q hdq)
              have := writers hn D M.closed hi ho hS hd hap h1 e
              rw [h2] at this
              have : j' < j := by simpa using this.symm
              omega
        · rw [if_neg hne]
          have F := M.pend j hj'
          obtain ⟨y, y1, y2, y3⟩ := F.obj
          obtain ⟨u, u1, u2⟩ := F.val
          refine ⟨by have := F.lt; simp; omega, F.ge, F.free, ⟨y, y1, y2, y3.mono (.refl ρ) (fun _ => heap_push_old w oc F.lt)⟩, ⟨u, fun q hq hlt2 => ?_, u2⟩, hlast j hj'⟩
          rw [put_size] at hlt2
          rw [put_get, if_neg (fun h => hdne j q hj' hq h.1)]
          exact u1 q hq hlt2
      · intro j j' h1 h2 hne
        rcases hpe j h1 with e1 | ⟨hj, g1⟩ <;> rcases hpe j' h2 with e2 | ⟨hj', g2⟩
        · exact absurd (e1.trans e2.symm) hne
        · rw [if_pos e1, if_neg hj']; have := (M.pend j' g2).lt; simp only; omega
        · rw [if_pos e2, if_neg hj]; have := (M.pend j g1).lt; simp only; omega
        · rw [if_neg hj, if_neg hj']; exact M.dist j j' g1 g2 hne
      · intro hm
        obtain ⟨h1, h2⟩ := X hm
        refine ⟨h1, ?_⟩
        try simp only []
        rw [hset, if_neg (by omega)]
        exact h2
      · have hnd : ∀ c, o.op ≠ .defer c := by intro c e; rw [e] at hal; simp [isAl] at hal
        have hns : ∀ c d, o.op ≠ .select c d := by intro c d e; rw [e] at hal; simp [isAl] at hal
        rw [hg hw', Oper.semAt_eq _ _ _ hnd, execOp_congr o hns hec, ← hfin]
        simp [stepG.apply, r1, Sem.runT_eq]
    · obtain rfl : m = i := by omega
      obtain ⟨ρ', v', w', r1, r2, r3, r4⟩ := op_stepE hcall M.heap M.kept hE ho hoOK hec hw' ha (rest := rest) b k cs
      have hpe : ∀ j, Pend P ops T n (fun j => (listed.setIfInBounds m true).getD j false) (m + 1) j → Pend P ops T n (fun j => listed.getD j false) m j := by
        rintro j ⟨h1, h2, h3, h4⟩
        try simp only [] at h3
        rw [hset, if_neg (by omega)] at h3
        exact ⟨by omega, h2, h3, h4⟩
      have hpe' : ∀ j, Pend P ops T n (fun j => listed.getD j false) m j → Pend P ops T n (fun j => (listed.setIfInBounds m true).getD j false) (m + 1) j := by
        rintro j ⟨h1, h2, h3, h4⟩
        have hne : j ≠ m := fun e => by rw [e] at h3; have h5 : listed.getD m false = true := h3; rw [hS] at h5; simp at h5
        exact ⟨by omega, h2, by (try simp only []); rw [hset, if_neg hne]; exact h3, h4⟩
      have hlive : ∀ {o : AObj}, o.own = true → o.live = true := by intro o ho; cases o <;> first | rfl | simp [AObj.own] at ho
      have M1 : Mid P G W0 ops n T Hh V (fun j => (listed.setIfInBounds m true).getD j false) ρ0 w0 ρ' (a.put o.dst v') w' (m + 1) pl := by
        refine ⟨by omega, slots' r3.ext (fun _ _ _ => r1) (fun q hq _ h => ?_), r2, ?_, fun j q hp hq => M.high j q (hpe j hp) hq, r3.kept M.heap M.kept, closed', ?_, fun j j' h1 h2 => M.dist j j' (hpe j h1) (hpe j' h2), M.fr.trans r3⟩
        · rw [← hDe] at h
          obtain ⟨j, hj, hdj⟩ := h
          exact hq ⟨j, hpe' j hj, hdj⟩
        · intro j hj hE'
          try simp only []
          rw [hset]
          split
          · rfl
          · rename_i hne; exact M.low j (by omega) hE'
        · intro j hj
          have hj' := hpe j hj
          have F := M.pend j hj'
          obtain ⟨y, y1, y2, y3⟩ := F.obj
          obtain ⟨u, u1, u2⟩ := F.val
          refine ⟨Nat.lt_of_lt_of_le F.lt r3.size, F.ge, ?_, ⟨y, y1, y2, y3.mono r3.ext (fun _ => r3.keep _ F.lt (fun b' o' q' hb' ho' hq' => F.free b' o' q' hb' (hlive ho') hq'))⟩, ⟨u, fun q hq hlt2 => ?_, u2⟩, hlast j hj'⟩
          · intro b' o' q' hb' ho' hq' e
            obtain ⟨b0, o0, p0, z1, z2, z3, z4⟩ := r3.liv b' o' q' hb' ho' hq' (by rw [e]; exact F.lt)
            exact F.free b0 o0 p0 z1 z2 z3 (z4.trans e)
          · rw [put_size] at hlt2
            rw [put_get, if_neg (fun h => hdne j q hj' hq h.1)]
            exact u1 q hq hlt2
      obtain ⟨ρ2, m2, M2, X2⟩ := M1.most hn tr hG _ _ _ rfl
      exact ⟨ρ2, a.put o.dst v', w', m2, pl, M2, X2, put_defers _ _ _, r4⟩

def left (n : Nat) (listed : Array Bool) : Nat := ((List.range n).filter fun i => !listed.getD i false).length

theorem left_set {n i : Nat} {listed : Array Bool} (hl : listed.size = n) (hi : i < n) (hS : listed.getD i false = false) : left n (listed.setIfInBounds i true) < left n listed := by
  unfold left
  have hsub : ∀ j, (!(listed.setIfInBounds i true).getD j false) = true → (!listed.getD j false) = true := by
    intro j hj
    rw [setS (by omega)] at hj
    split at hj
    · simp at hj
    · exact hj
  have key : ∀ l : List Nat, (l.filter fun j => !(listed.setIfInBounds i true).getD j false).length ≤ (l.filter fun j => !listed.getD j false).length ∧
      (i ∈ l → (l.filter fun j => !(listed.setIfInBounds i true).getD j false).length < (l.filter fun j => !listed.getD j false).length) := by
    intro l
    induction l with
    | nil => exact ⟨Nat.le_refl _, fun h => by simp at h⟩
    | cons x l ih =>
      simp only [List.filter_cons]
      by_cases hx : x = i
      · subst hx
        have e1 : (!(listed.setIfInBounds x true).getD x false) = false := by rw [setS (by omega)]; simp
        have e2 : (!listed.getD x false) = true := by rw [hS]; rfl
        rw [e1, e2]
        simp only [Bool.false_eq_true, if_false, if_true, List.length_cons]
        exact ⟨by have := ih.1; omega, fun _ => by have := ih.1; omega⟩
      · have e1 : (listed.setIfInBounds i true).getD x false = listed.getD x false := by rw [setS (by omega), if_neg hx]
        rw [e1]
        split
        · simp only [List.length_cons]
          refine ⟨by have := ih.1; omega, fun h => ?_⟩
          have := ih.2 (by rcases List.mem_cons.1 h with h | h; exact absurd h.symm hx; exact h)
          omega
        · exact ⟨ih.1, fun h => ih.2 (by rcases List.mem_cons.1 h with h | h; exact absurd h.symm hx; exact h)⟩
  exact (key (List.range n)).2 (List.mem_range.2 hi)

theorem ready_spec {ops : Array Oper} {listed : Array Bool} {n i : Nat} (hn : ops.size = n) (hl : listed.size = n) (h : i ∈ Region.ready .any ops listed) :
    i < n ∧ listed.getD i false = false ∧ ∃ o, ops[i]? = some o ∧ ∀ e ∈ o.after.toList, Region.binds .any e = true → listed.getD e.on false = true := by
  unfold Region.ready at h
  rw [List.mem_filter] at h
  obtain ⟨hr, h⟩ := h
  have hi : i < n := by have := List.mem_range.1 hr; omega
  simp only [Bool.and_eq_true, Bool.not_eq_true'] at h
  refine ⟨hi, ?_, ops[i], by simp, ?_⟩
  · have := h.1
    simp only [Array.getD_eq_getD_getElem?] at this ⊢
    rw [Array.getElem?_eq_getElem (by omega)] at this ⊢
    simpa using this
  · have := h.2
    rw [Array.getElem?_eq_getElem (by omega)] at this
    simp only [Option.map_some, Option.getD_some, Array.all_eq_true'] at this
    intro e he hb
    have := this e (by simpa using he)
    simpa [hb] using this

theorem ready_nil {ops : Array Oper} {listed : Array Bool} {n : Nat} (hn : ops.size = n) (hl : listed.size = n) (D : DrawOK P ops.toList) (h : Region.ready .any ops listed = []) : ∀ i, i < n → listed.getD i false = true := by
  intro i
  induction i using Nat.strongRecOn with
  | _ i ih =>
    intro hi
    rcases hb : listed.getD i false with _ | _
    · exfalso
      have hm : i ∈ Region.ready .any ops listed := by
        unfold Region.ready
        rw [List.mem_filter]
        refine ⟨List.mem_range.2 (by omega), ?_⟩
        rw [Array.getElem?_eq_getElem (by omega)]
        simp only [Option.map_some, Option.getD_some, Bool.and_eq_true, Bool.not_eq_true', Array.all_eq_true']
        refine ⟨?_, ?_⟩
        · simp only [Array.getD_eq_getD_getElem?] at hb ⊢
          rw [Array.getElem?_eq_getElem (by omega)] at hb ⊢
          simpa using hb
        · intro e he
          rcases hbe : Region.binds .any e with _ | _
          · simp
          · have hlt := D.on i ops[i] (by simp) e (by simpa using he) hbe
            simp [ih e.on hlt (by omega)]
      rw [h] at hm; simp at hm
    · rfl

theorem adraw_sound {W0 : World} (hmix : P.follows .mixedOrders = true) {call : ACall} (hcall : CallOK P G W0 call) {ops : Array Oper} (hops : ops.toList.all (operOK G) = true) (hD : drawOK P ops = true) {s s' : St}
    (h : adraw P call ops (List.range ops.size) s [] [] = some s') {ρ : Rho} {w : World} {a : Act} (H : HRel G ρ s.h w) (K : Kept G W0 w) (ht : LRel ρ s.t a.tmps.toList) (id : Nat) (b : Frame) (k : List Item) (cs : List Frame) :
    ∃ (ρ' : Rho) (a' : Act) (w' : World), HRel G ρ' s'.h w' ∧ LRel ρ' s'.t a'.tmps.toList ∧ a'.defers = a.defers ∧ Fr ρ s.h w ρ' s'.h w' ∧
      Steps P (lone (b.atR a (.code (.region id ops true) :: k)) cs w) (lone (b.atR a' k) cs w') := by
  have D := drawOK_spec hD
  rw [List.range_eq_range'] at h
  obtain ⟨T, Hh, V, t1, t2, t3, t4, tr, _, _⟩ := adraw_trace _ _ h
  simp only [Nat.zero_add] at t3 t4 tr
  generalize hn : ops.size = n at *
  have hG : G ≤ w.heap.size := H.gsz
  -- the schedule, from a state in its middle
  have go : ∀ (fuel t : Nat) (listed : Array Bool) (ρ1 : Rho) (a1 : Act) (w1 : World) (m : Nat) (pl : Nat → Pl), listed.size = n → left n listed ≤ fuel → Mid P G W0 ops n T Hh V (fun j => listed.getD j false) ρ w ρ1 a1 w1 m pl → MaxM P ops T n (fun j => listed.getD j false) m → a1.defers = a.defers →
      ∃ (ρ' : Rho) (a' : Act) (w' : World), HRel G ρ' (Hh n) w' ∧ LRel ρ' (T n) a'.tmps.toList ∧ a'.defers = a.defers ∧ Fr ρ (Hh 0) w ρ' (Hh n) w' ∧
        Steps P (lone (b.atR a1 (.inRegion ops (Region.linearise.go .any ops fuel t listed []) :: k)) cs w1) (lone (b.atR a' k) cs w') := by
    -- where nothing is left
    have fin : ∀ (listed : Array Bool) (ρ1 : Rho) (a1 : Act) (w1 : World) (m : Nat) (pl : Nat → Pl), (∀ i, i < n → listed.getD i false = true) → Mid P G W0 ops n T Hh V (fun j => listed.getD j false) ρ w ρ1 a1 w1 m pl → MaxM P ops T n (fun j => listed.getD j false) m → a1.defers = a.defers →
        ∃ (ρ' : Rho) (a' : Act) (w' : World), HRel G ρ' (Hh n) w' ∧ LRel ρ' (T n) a'.tmps.toList ∧ a'.defers = a.defers ∧ Fr ρ (Hh 0) w ρ' (Hh n) w' ∧
          Steps P (lone (b.atR a1 (.inRegion ops [] :: k)) cs w1) (lone (b.atR a' k) cs w') := by
      intro listed ρ1 a1 w1 m pl hall M X hdf
      have hmn : m = n := by
        rcases Nat.lt_or_ge m n with h1 | h1
        · have h2 : listed.getD m false = false := (X h1).2
          rw [hall m h1] at h2; simp at h2
        · have := M.le; omega
      subst hmn
      have e3 : slotsOf ops V (T 0) (fun j => listed.getD j false) m = T m := by
        rw [← slots_trace tr m m (Nat.le_refl _) (Nat.le_refl _)]
        apply List.ext_getElem?
        intro q
        exact slotsOf_congr m (fun j hj _ => by rw [hall j hj]; simp [hj])
      have hsl := M.slots.full (fun q ⟨j, hj, _⟩ => by have := hj.1; have := hj.2.1; omega)
      rw [e3] at hsl
      exact ⟨ρ1, a1, w1, M.heap, hsl, hdf, M.fr, .one stepR_region_end⟩
    intro fuel
    induction fuel with
    | zero =>
      intro t listed ρ1 a1 w1 m pl hls hleft M X hdf
      simp only [Region.linearise.go, List.reverse_nil]
      refine fin listed ρ1 a1 w1 m pl (fun i hi => ?_) M X hdf
      have h0 : left n listed = 0 := by omega
      unfold left at h0
      rw [List.length_eq_zero_iff, List.filter_eq_nil_iff] at h0
      have := h0 i (List.mem_range.2 hi)
      simpa using this
    | succ fuel ih =>
      intro t listed ρ1 a1 w1 m pl hls hleft M X hdf
      have hgo : Region.linearise.go .any ops (fuel + 1) t listed [] = match (Region.ready .any ops listed)[t % (Region.ready .any ops listed).length]? with
          | some i => Region.linearise.go .any ops fuel (t / (Region.ready .any ops listed).length) (listed.setIfInBounds i true) [i]
          | none => [] := rfl
      rw [hgo]
      cases hi : (Region.ready .any ops listed)[t % (Region.ready .any ops listed).length]? with
      | none =>
        simp only []
        refine fin listed ρ1 a1 w1 m pl (ready_nil hn hls D ?_) M X hdf
        cases hr : Region.ready .any ops listed with
        | nil => rfl
        | cons x xs =>
          rw [hr] at hi
          have hlt : t % (x :: xs).length < (x :: xs).length := Nat.mod_lt _ (by simp)
          rw [List.getElem?_eq_getElem hlt] at hi
          simp at hi
      | some i =>
        simp only []
        rw [linearise_go_acc, List.reverse_singleton, List.singleton_append]
        obtain ⟨hin, hS, o, ho, hd⟩ := ready_spec hn hls (List.mem_of_getElem? hi)
        obtain ⟨ρ2, a2, w2, m2, pl2, M2, X2, hdf2, hst⟩ := M.one hcall hops hn hls D tr hG X hin ho hS hd b k cs (Region.linearise.go .any ops fuel (t / (Region.ready .any ops listed).length) (listed.setIfInBounds i true) [])
        obtain ⟨ρ', a', w', q1, q2, q3, q4, q5⟩ := ih (t / (Region.ready .any ops listed).length) (listed.setIfInBounds i true) ρ2 a2 w2 m2 pl2 (by simpa using hls) (by have := left_set hls hin hS; omega) M2 X2 (hdf2.trans hdf)
        exact ⟨ρ', a', w', q1, q2, q3, q4, hst.trans q5⟩
  have hgetF : ∀ j, (Array.replicate n false).getD j false = false := by
    intro j
    simp only [Array.getD_eq_getD_getElem?, Array.getElem?_replicate]
    split <;> rfl
  have hslots : slotsOf ops V (T 0) (fun j => (Array.replicate n false).getD j false) n = T 0 := by
    have : ∀ m, slotsOf ops V (T 0) (fun j => (Array.replicate n false).getD j false) m = T 0 := by
      intro m
      induction m with
      | zero => rfl
      | succ m ih =>
        simp only [slotsOf]
        rw [if_neg (by rw [hgetF]; simp)]
        exact ih
    exact this n
  have M0 : Mid P G W0 ops n T Hh V (fun j => (Array.replicate n false).getD j false) ρ w ρ a w.drew 0 (fun _ => ⟨0, 0, 0⟩) := by
    have hnp : ∀ j, ¬ Pend P ops T n (fun j => (Array.replicate n false).getD j false) 0 j := fun j hj => by have := hj.2.2.1; simp only [hgetF] at this; simp at this
    refine ⟨by omega, ⟨?_, fun q v hq _ => ?_⟩, by rw [t2]; exact H.drew, fun j hj => by omega, fun j o hj => absurd hj (hnp j), K, fun j o _ _ hS => absurd ((hgetF j).symm.trans hS) (by simp), fun j hj => absurd hj (hnp j), fun j _ hj => absurd hj (hnp j), by rw [t2]; exact Fr.drew ρ s.h w⟩
    · rw [hslots, t1]; exact ht.length
    · rw [hslots, t1] at hq; exact ht.get? hq
  obtain ⟨ρ1, m1, M1, X1⟩ := M0.most hn tr hG _ _ _ rfl
  obtain ⟨ρ', a', w', q1, q2, q3, q4, q5⟩ := go n (w.tape w.drawn (.order b.fn id)) (Array.replicate n false) ρ1 a w.drew m1 _ (by simp) (by unfold left; have := List.length_filter_le (fun i => !(Array.replicate n false).getD i false) (List.range n); simp only [List.length_range] at this; exact this)
    M1 X1 rfl
  refine ⟨ρ', a', w', by rw [← t4]; exact q1, by rw [← t3]; exact q2, q3, by rw [← t4, ← t2]; exact q4, .head stepR_region_draw ?_⟩
  have : Region.schedule (P.follows .mixedOrders) ops (w.tape w.drawn (.order b.fn id)) = Region.linearise.go .any ops n (w.tape w.drawn (.order b.fn id)) (Array.replicate n false) [] := by
    unfold Region.schedule
    rw [hmix]
    simp only [Bool.true_or, if_true, Region.linearise, hn]
  rw [this]
  exact q5

theorem aregion_sound {W0 : World} (hmix : P.follows .mixedOrders = true) {call : ACall} (hcall : CallOK P G W0 call) {ops : Array Oper} (hops : ops.toList.all (operOK G) = true) {draw : Bool} {s s' : St}
    (h : aregion P call ops draw s = some s') {ρ : Rho} {w : World} {a : Act} (H : HRel G ρ s.h w) (K : Kept G W0 w) (ht : LRel ρ s.t a.tmps.toList) (id : Nat) (b : Frame) (k : List Item) (cs : List Frame) :
    ∃ (ρ' : Rho) (a' : Act) (w' : World), HRel G ρ' s'.h w' ∧ LRel ρ' s'.t a'.tmps.toList ∧ a'.defers = a.defers ∧ Fr ρ s.h w ρ' s'.h w' ∧
      Steps P (lone (b.atR a (.code (.region id ops draw) :: k)) cs w) (lone (b.atR a' k) cs w') := by
  unfold aregion at h
  split at h
  · rename_i hd
    rw [hd]
    split at h
    · rename_i hD
      exact adraw_sound hmix hcall hops hD h H K ht id b k cs
    · simp at h
  · rename_i hd
    have hd' : draw = false := by simpa using hd
    rw [hd']
    obtain ⟨ρ', a', w', q1, q2, q3, q4, q5⟩ := aops_sound hcall hops _ h H K ht b k cs
    exact ⟨ρ', a', w', q1, q2, q3, q4, .head stepR_region q5⟩
end Go.AM
