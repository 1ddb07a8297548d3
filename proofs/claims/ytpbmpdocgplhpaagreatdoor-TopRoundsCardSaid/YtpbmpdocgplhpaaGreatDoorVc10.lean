/-
  THE ABSTRACT EXECUTOR, SYMBOLICALLY: drawn regions in which loads float past calls and other effects.
-/
import Derived.Test.YtpbmpdocgplhpaaGreatDoorVc9
set_option linter.unusedSimpArgs false
set_option linter.unusedVariables false
namespace Go.AM
variable {P : Program} {X : Ext} {ro : Option Nat} {M : Nat} {all : Array Oper} {f : Nat → Value} {h : AHeap} {R : FS → Prop}

/-- Where a drawn region's run stands: the next operation, how many are left, the heaps before the effects that are done, what was read. -/
structure DS where
  i : Nat
  k : Nat
  hs : List (Nat × AHeap)
  rs : List (Nat × TypeId × Value × Value)

def FinD (P : Program) (X : Ext) (M : Nat) (all : Array Oper) (D : DS) (x : FS) (R : FS → Prop) : Prop :=
  ∀ s, Rep M s x → ∃ N s' x', Rep M s' x' ∧ R x' ∧ ∀ n, N ≤ n → adraw P (acall P X n) all (List.range' D.i D.k) s D.hs D.rs = some s'

/-- Is the operation wanted? -/
def wantF (all : Array Oper) (f : Nat → Value) (o : Oper) : Option Bool :=
  match o.guard with
  | none => some true
  | some (j, w) => match (all[j]?).bind (·.dst) with
    | some d => (match f d with | .bool b => some (bif (Bool.decEq b w).decide then true else false) | _ => none)
    | none => none
theorem wantF_eq {o : Oper} {b : Bool} {s : St} {x : FS} (r : Rep M s x) (hd : ∀ (j : Nat) (d : Tmp), (all[j]?).bind (·.dst) = some d → d < M) (h : wantF all x.f o = some b) : Region.wanted o (ayielded all s.t) = b := by
  unfold wantF at h
  unfold Region.wanted
  cases hg : o.guard with
  | none => rw [hg] at h; simp only [Option.some.injEq] at h; subst h; rfl
  | some q =>
    obtain ⟨j, w⟩ := q
    rw [hg] at h
    simp only at h ⊢
    cases hj : (all[j]?).bind (·.dst) with
    | none => rw [hj] at h; simp at h
    | some d =>
      rw [hj] at h
      simp only at h
      split at h
      · rename_i b' hb
        simp only [Option.some.injEq] at h; subst h
        have hlt : @LT.lt Nat _ d s.t.length := by rw [r.len]; exact hd j d hj
        have : s.t[d]? = some (.bool b') := by
          have h1 := r.slot d
          rw [List.getD_eq_getElem?_getD, List.getElem?_eq_getElem hlt] at h1
          simp only [Option.getD_some] at h1
          rw [List.getElem?_eq_getElem hlt, h1, hb]
        unfold ayielded
        rw [hj, Option.bind_some, this]
        cases b' <;> cases w <;> rfl
      · simp at h

def dstsIn (M : Nat) (all : Array Oper) : Bool := all.toList.all fun o => dstIn M o.dst
theorem dstsIn_spec (h : dstsIn M all = true) : ∀ (j : Nat) (d : Tmp), (all[j]?).bind (·.dst) = some d → d < M := by
  intro j d hj
  cases ho : all[j]? with
  | none => rw [ho] at hj; simp at hj
  | some o =>
    rw [ho] at hj
    have hm : o ∈ all.toList := by simpa using Array.mem_of_getElem? ho
    have := List.all_eq_true.1 h o hm
    simp only [Option.bind_some] at hj
    rw [hj] at this
    exact Nat.le_of_ble_eq_true (by simpa only [dstIn, Nat.blt] using this)

theorem FinD_end {D : DS} {x : FS} (hk : Nat.beq D.k 0 = true) (k : R x) : FinD P X M all D x R := by
  intro s r
  have : D.k = 0 := Nat.eq_of_beq_eq_true hk
  exact ⟨0, s, x, r, k, fun n _ => by rw [this]; rfl⟩

/-- The operation that is next, if it is wanted. -/
def dop (all : Array Oper) (D : DS) (f : Nat → Value) : Option Oper :=
  bif Nat.beq D.k 0 then none else match all[D.i]? with
  | some o => (match wantF all f o with | some true => some o | _ => none)
  | none => none
theorem dop_spec {D : DS} {o : Oper} (h : dop all D f = some o) : ∃ k, D.k = k + 1 ∧ all[D.i]? = some o ∧ wantF all f o = some true := by
  unfold dop at h
  cases hk : D.k with
  | zero => rw [hk] at h; simp at h
  | succ k =>
    rw [hk] at h
    have : Nat.beq (k + 1) 0 = false := rfl
    rw [this] at h
    simp only [cond_false] at h
    split at h
    · rename_i o' ho
      split at h
      · rename_i hw
        simp only [Option.some.injEq] at h; subst h
        exact ⟨k, rfl, ho, hw⟩
      · simp at h
    · simp at h
def dnext (D : DS) : DS := ⟨D.i + 1, D.k.pred, D.hs, D.rs⟩
def ddst (all : Array Oper) (D : DS) : Option Tmp := (all[D.i]?).bind (·.dst)

theorem FinD_pure {D : DS} {o : Oper} {v : Value} (hm : dstsIn M all = true) (ho : dop all D f = some o) (hk : Nat.beq (kindOf P o.op) 0 = true) (hv : apure P (fev f) o.op = some v)
    (k : FinD P X M all (dnext D) ⟨fput f (ddst all D) v, h⟩ R) : FinD P X M all D ⟨f, h⟩ R := by
  obtain ⟨q, hq, hi, hw⟩ := dop_spec ho
  intro s r
  have hd : ddst all D = o.dst := by simp [ddst, hi]
  have hdst : dstIn M o.dst = true := List.all_eq_true.1 hm o (by simpa using Array.mem_of_getElem? hi)
  rw [hd] at k
  obtain ⟨N, s', x', a, b, c⟩ := k _ (r.put hdst v h)
  refine ⟨N, s', x', a, b, fun n hn => ?_⟩
  have hc := c n hn
  have hk0 : kindOf P o.op = 0 := Nat.eq_of_beq_eq_true hk
  have hh := r.heap
  simp only at hh
  rw [hq, List.range'_succ]
  simp only [adraw, hi, wantF_eq r (dstsIn_spec hm) hw, if_true, hk0, r.evf, hv]
  simp only [dnext, hq, Nat.pred_succ] at hc
  rw [hh]; exact hc

theorem FinD_skip {D : DS} (hm : dstsIn M all = true) {o : Oper} {q : Nat} (hq : D.k = q + 1) (hi : all[D.i]? = some o) (hw : wantF all f o = some false)
    (k : FinD P X M all (dnext D) ⟨fput f (ddst all D) undef, h⟩ R) : FinD P X M all D ⟨f, h⟩ R := by
  intro s r
  have hd : ddst all D = o.dst := by simp [ddst, hi]
  have hdst : dstIn M o.dst = true := List.all_eq_true.1 hm o (by simpa using Array.mem_of_getElem? hi)
  rw [hd] at k
  obtain ⟨N, s', x', a, b, c⟩ := k _ (r.put hdst undef h)
  refine ⟨N, s', x', a, b, fun n hn => ?_⟩
  have hc := c n hn
  have hh := r.heap
  simp only at hh
  rw [hq, List.range'_succ]
  simp only [adraw, hi, wantF_eq r (dstsIn_spec hm) hw, Bool.false_eq_true, if_false]
  simp only [dnext, hq, Nat.pred_succ] at hc
  rw [hh]; exact hc

/-- Run what needs no word. -/
def fdstep (P : Program) (M : Nat) (all : Array Oper) (D : DS) (f : Nat → Value) : Option (DS × (Nat → Value)) :=
  bif Nat.beq D.k 0 then none else match all[D.i]? with
  | some o => (match wantF all f o with
    | some true => bif Nat.beq (kindOf P o.op) 0 && totalOp f o.op then (match apure P (fev f) o.op with
      | some v => some (dnext D, fput f o.dst v)
      | none => none) else none
    | some false => some (dnext D, fput f o.dst undef)
    | none => none)
  | none => none
def fdrun (P : Program) (M : Nat) (all : Array Oper) : Nat → DS → (Nat → Value) → DS × (Nat → Value)
  | 0, D, f => (D, f)
  | n + 1, D, f => match fdstep P M all D f with
    | some (D', f') => fdrun P M all n D' f'
    | none => (D, f)
theorem DRun (n : Nat) {D : DS} (hm : dstsIn M all = true) (k : FinD P X M all (fdrun P M all n D f).1 ⟨(fdrun P M all n D f).2, h⟩ R) : FinD P X M all D ⟨f, h⟩ R := by
  induction n generalizing D f with
  | zero => exact k
  | succ n ih =>
    simp only [fdrun] at k
    split at k
    · rename_i D' f' hs
      have k := ih k
      unfold fdstep at hs
      cases hk : Nat.beq D.k 0 with
      | true => rw [hk] at hs; simp at hs
      | false =>
        rw [hk] at hs
        simp only [cond_false] at hs
        obtain ⟨q, hq⟩ : ∃ q, D.k = q + 1 := by
          cases hh : D.k with
          | zero => rw [hh] at hk; simp at hk
          | succ q => exact ⟨q, rfl⟩
        split at hs
        · rename_i o hi
          have hd : ddst all D = o.dst := by simp [ddst, hi]
          split at hs
          · rename_i hw
            cases ht : (Nat.beq (kindOf P o.op) 0 && totalOp f o.op) with
            | false => rw [ht] at hs; simp at hs
            | true =>
              rw [ht] at hs
              simp only [Bool.and_eq_true] at ht
              simp only [cond_true] at hs
              split at hs
              · rename_i v hv
                simp only [Option.some.injEq, Prod.mk.injEq] at hs
                obtain ⟨rfl, rfl⟩ := hs
                refine FinD_pure (o := o) hm ?_ ht.1 hv (by rw [hd]; exact k)
                unfold dop
                rw [hk]; simp only [cond_false, hi, hw]
              · simp at hs
          · rename_i hw
            simp only [Option.some.injEq, Prod.mk.injEq] at hs
            obtain ⟨rfl, rfl⟩ := hs
            exact FinD_skip hm hq hi hw (by rw [hd]; exact k)
          · simp at hs
        · simp at hs
    · exact k

/-- A drawn region: on, as its operations stand, with what floats told. -/
def vDraw (P : Program) (K : List Fm) : Option (Array Oper) := match K with | .code (.region _ ops true) :: _ => bif drawOK P ops then some ops else none | _ => none
theorem DrawG {K : List Fm} {Q : AExit → FS → Prop} {x : FS} (ops : Array Oper) (hd : vDraw P K = some ops) (k : FinD P X M ops ⟨0, ops.size, [], []⟩ x (fun y => Fin P X ro M K.tail .normal y Q)) : Fin P X ro M K .normal x Q := by
  unfold vDraw at hd
  split at hd
  · rename_i ops' K0
    cases hok : drawOK P ops' with
    | false => rw [hok] at hd; simp at hd
    | true =>
      rw [hok] at hd
      simp only [cond_true, Option.some.injEq] at hd
      subst hd
      intro s r
      obtain ⟨N, s', x', a, k2, c⟩ := k s r
      obtain ⟨N2, e2, s2, x2, a2, b2, c2⟩ := k2 s' a
      refine ⟨max N N2, e2, s2, x2, a2, b2, fun n m hn hm => ?_⟩
      have h1 := c n (by omega)
      have h2 := c2 n m (by omega) (by omega)
      rw [← List.range_eq_range'] at h1
      simp only [List.tail_cons] at h2
      simp only [kex, frOne, aex, aregion, if_true, hok, h1]
      exact h2
  · simp at hd

/-- The heaps that a load may also have been done at; what an effect may also come before. -/
def dheaps (P : Program) (all : Array Oper) (D : DS) : List AHeap := (D.hs.filter fun p => (floats P all D.i).contains p.1).map (·.2)
def dloads (P : Program) (all : Array Oper) (D : DS) : List (TypeId × Value × Value) := (D.rs.filter fun p => (floats P all p.1).contains D.i).map (·.2)
def dld (P : Program) (all : Array Oper) (D : DS) (t : TypeId) (a v : Value) : DS := ⟨D.i + 1, D.k.pred, D.hs, bif (floats P all D.i).isEmpty then D.rs else (D.i, t, a, v) :: D.rs⟩
def deff (D : DS) (h : AHeap) : DS := ⟨D.i + 1, D.k.pred, (D.i, h) :: D.hs, D.rs⟩
def vdLoad (all : Array Oper) (D : DS) (f : Nat → Value) : Option (TypeId × Value) := match dop all D f with | some o => (match o.op with | .load t a => some (t, fev f a) | _ => none) | none => none
theorem DLoad {D : DS} (t : TypeId) (a v : Value) (L : List AHeap) (hm : dstsIn M all = true) (hl : vdLoad all D f = some (t, a)) (hL : dheaps P all D = L) (hv : aload P h t a = some v) (hh : ∀ g ∈ L, aload P g t a = some v)
    (k : FinD P X M all (dld P all D t a v) ⟨fput f (ddst all D) v, h⟩ R) : FinD P X M all D ⟨f, h⟩ R := by
  unfold vdLoad at hl
  split at hl
  · rename_i o ho
    split at hl
    · rename_i t' a' hop
      simp only [Option.some.injEq, Prod.mk.injEq] at hl
      obtain ⟨rfl, rfl⟩ := hl
      obtain ⟨q, hq, hi, hw⟩ := dop_spec ho
      intro s r
      have hd : ddst all D = o.dst := by simp [ddst, hi]
      have hdst : dstIn M o.dst = true := List.all_eq_true.1 hm o (by simpa using Array.mem_of_getElem? hi)
      rw [hd] at k
      obtain ⟨N, s', x', a, b, c⟩ := k _ (r.put hdst v h)
      refine ⟨N, s', x', a, b, fun n hn => ?_⟩
      have hc := c n hn
      have hhp := r.heap
      simp only at hhp
      have hk1 : kindOf P o.op = 1 := by rw [hop]; rfl
      rw [hq, List.range'_succ]
      simp only [adraw, hi, wantF_eq r (dstsIn_spec hm) hw, if_true, hk1]
      rw [hop]
      simp only [r.evf, hhp, hv]
      refine (if_pos ?_).trans ?_
      · rw [List.all_eq_true]
        intro p hp
        cases hcn : (floats P all D.i).contains p.1 with
        | false => rfl
        | true =>
          have hin : p.2 ∈ L := by
            rw [← hL]; unfold dheaps
            rw [List.mem_map]
            exact ⟨p, List.mem_filter.2 ⟨hp, hcn⟩, rfl⟩
          rw [hh _ hin]
          simp only [same_refl, Bool.or_true]
      · simp only [dld, hq, Nat.pred_succ] at hc
        cases hem : (floats P all D.i).isEmpty with
        | true => rw [hem] at hc; simpa using hc
        | false => rw [hem] at hc; simpa using hc
    · simp at hl
  · simp at hl

/-- An effect. -/
theorem DEff {D : DS} {o : Oper} {v : Value} {h' : AHeap} (L : List (TypeId × Value × Value)) (hm : dstsIn M all = true) (ho : dop all D f = some o) (hk : Nat.beq (kindOf P o.op) 2 = true) (hL : dloads P all D = L)
    (hop : ∃ N, ∀ n, N ≤ n → aop P (acall P X n) (fev f) h o.op = some (v, h')) (hh : ∀ p ∈ L, aload P h' p.1 p.2.1 = some p.2.2)
    (k : FinD P X M all (deff D h) ⟨fput f (ddst all D) v, h'⟩ R) : FinD P X M all D ⟨f, h⟩ R := by
  obtain ⟨q, hq, hi, hw⟩ := dop_spec ho
  intro s r
  have hd : ddst all D = o.dst := by simp [ddst, hi]
  have hdst : dstIn M o.dst = true := List.all_eq_true.1 hm o (by simpa using Array.mem_of_getElem? hi)
  rw [hd] at k
  obtain ⟨N, s', x', a, b, c⟩ := k _ (r.put hdst v h')
  obtain ⟨N2, h2⟩ := hop
  refine ⟨max N N2, s', x', a, b, fun n hn => ?_⟩
  have hc := c n (by omega)
  have h3 := h2 n (by omega)
  have hk2 : kindOf P o.op = 2 := Nat.eq_of_beq_eq_true hk
  have hhp := r.heap
  simp only at hhp
  rw [hq, List.range'_succ]
  simp only [adraw, hi, wantF_eq r (dstsIn_spec hm) hw, if_true, hk2, r.evf, hhp, h3]
  refine (if_pos ?_).trans ?_
  · rw [List.all_eq_true]
    intro p hp
    cases hcn : (floats P all p.1).contains D.i with
    | false => rfl
    | true =>
      have hin : p.2 ∈ L := by
        rw [← hL]; unfold dloads
        rw [List.mem_map]
        exact ⟨p, List.mem_filter.2 ⟨hp, hcn⟩, rfl⟩
      rw [hh _ hin]
      simp only [same_refl, Bool.or_true]
  · simp only [deff, hq, Nat.pred_succ] at hc
    exact hc

def vdCall (all : Array Oper) (D : DS) (f : Nat → Value) : Option (FuncId × List Value) := match dop all D f with
  | some o => (match o.op with
    | .call { callee := .value g, args, .. } => (match fev f g with
      | .func (.func g) first captured => some (g, first.toList ++ args.toList.map (fev f) ++ captured.toList)
      | _ => none)
    | _ => none)
  | none => none
theorem DCall {D : DS} (g : FuncId) (args : List Value) (L : List (TypeId × Value × Value)) {C : Value → AHeap → Prop} (hm : dstsIn M all = true) (hl : vdCall all D f = some (g, args)) (hL : dloads P all D = L) (c : Ca P X (.fn g) args h C)
    (k : ∀ v h', C v h' → (∀ p ∈ L, aload P h' p.1 p.2.1 = some p.2.2) ∧ FinD P X M all (deff D h) ⟨fput f (ddst all D) v, h'⟩ R) : FinD P X M all D ⟨f, h⟩ R := by
  obtain ⟨N, v, h', hC, hN⟩ := c
  unfold vdCall at hl
  split at hl
  · rename_i o ho
    split at hl
    · rename_i g0 args' at' hop
      split at hl
      · rename_i g' fi ca hf
        simp only [Option.some.injEq, Prod.mk.injEq] at hl
        obtain ⟨rfl, rfl⟩ := hl
        obtain ⟨k1, k2⟩ := k v h' hC
        refine DEff (o := o) L hm ho (by rw [hop]; rfl) hL ⟨N, fun n hn => ?_⟩ k1 k2
        rw [hop]
        simp only [aop, hf, callValue]
        exact hN n hn
      · simp at hl
    · simp at hl
  · simp at hl
/-- The other rules' one operation, in a drawn region: a partial operation that looks at its operands alone. -/
def dhop (all : Array Oper) (D : DS) (f : Nat → Value) : Option Op := match dop all D f with | some o => some o.op | none => none
theorem dhop_spec {D : DS} {op : Op} (h : dhop all D f = some op) : ∃ o, dop all D f = some o ∧ o.op = op := by
  unfold dhop at h
  split at h
  · rename_i o ho; simp only [Option.some.injEq] at h; exact ⟨o, ho, h⟩
  · simp at h
def vdIdxA (all : Array Oper) (D : DS) (f : Nat → Value) : Option (TypeId × Value × Value) := match dhop all D f with | some (.indexAddr t x i) => some (t, fev f x, fev f i) | _ => none
theorem DIdxA {D : DS} (t : TypeId) (b o sz len kk : Nat) (kd : IntKind) (i : Int) {e : TypeId} {it ie : TI} (hm : dstsIn M all = true) (hl : vdIdxA all D f = some (t, .slice (some ⟨b, o, some sz⟩) len kk, .int kd i))
    (ht : ti P t = some it) (hd : it.d = .slice e) (he : ti P e = some ie) (hs : ie.size = sz) (h0 : 0 ≤ i) (h1 : i < len)
    (k : FinD P X M all (dnext D) ⟨fput f (ddst all D) (.pointer (some ⟨b, o + i.toNat * sz, none⟩)), h⟩ R) : FinD P X M all D ⟨f, h⟩ R := by
  unfold vdIdxA at hl
  split at hl
  · rename_i t' x' i' ho
    simp only [Option.some.injEq, Prod.mk.injEq] at hl
    obtain ⟨rfl, hx, hi⟩ := hl
    obtain ⟨oo, ho1, ho2⟩ := dhop_spec ho
    obtain ⟨d, siz, by', ze⟩ := it
    simp only at hd; subst hd
    refine FinD_pure (o := oo) hm ho1 (by rw [ho2]; rfl) ?_ k
    rw [ho2]
    simp only [apure, hx, hi, aindexAddr, ht, asIdx, he, hs]
    simp [h0, h1]
  · simp at hl
def vdSlice (all : Array Oper) (D : DS) (f : Nat → Value) : Option (TypeId × Value × Option Value × Option Value × Option Value) := match dhop all D f with | some (.slice t x lo hi mx) => some (t, fev f x, lo.map (fev f), hi.map (fev f), mx.map (fev f)) | _ => none
theorem DSlic {D : DS} (t : TypeId) (x v : Value) (lo hi mx : Option Value) (hm : dstsIn M all = true) (hl : vdSlice all D f = some (t, x, lo, hi, mx)) (hk : (match P.underlying t with | some (.array _ _) => false | _ => true) = true) (hv : aslice P t x lo hi mx = some v)
    (k : FinD P X M all (dnext D) ⟨fput f (ddst all D) v, h⟩ R) : FinD P X M all D ⟨f, h⟩ R := by
  unfold vdSlice at hl
  split at hl
  · rename_i t' x' lo' hi' mx' ho
    simp only [Option.some.injEq, Prod.mk.injEq] at hl
    obtain ⟨rfl, rfl, rfl, rfl, rfl⟩ := hl
    obtain ⟨oo, ho1, ho2⟩ := dhop_spec ho
    refine FinD_pure (o := oo) hm ho1 ?_ ?_ k
    · rw [ho2]; simp only [kindOf]
      split at hk
      · simp at hk
      · rename_i hn
        split
        · rename_i hu; exact absurd hu (hn _ _)
        · rfl
    · rw [ho2]; simp only [apure, hv]
  · simp at hl
end Go.AM
namespace Go.AM
/-- A region's operations, by its number. -/
def regOf : Code → Nat → Option (Array Oper)
  | .region i ops _, j => bif Nat.beq i j then some ops else none
  | .seq a b, j => (match regOf a j with | some q => some q | none => regOf b j)
  | .block _ c, j => regOf c j
  | .scope c, j => regOf c j
  | .loop c, j => regOf c j
  | .cond _ a b, j => (match regOf a j with | some q => some q | none => regOf b j)
  | .rangeFunc _ _ a b, j => (match regOf a j with | some q => some q | none => regOf b j)
  | _, _ => none
def regN (f : Func) (j : Nat) : Array Oper := (regOf (f.body.getD .skip) j).getD #[]
variable {P : Program} {X : Ext} {ro : Option Nat} {M : Nat} {K : List Fm} {x : FS} {Q : AExit → FS → Prop}
/-- A condition that is a Bool: both ways, the state as it stands. -/
theorem Fin_c2 (b : Bool) (hv : condV K x = .bool b) (kt : b = true → Fin P X ro M (cnext true K) .normal x Q) (kf : b = false → Fin P X ro M (cnext false K) .normal x Q) : Fin P X ro M K .normal x Q := by
  cases b with
  | true => exact Fin_cB true hv (kt rfl)
  | false => exact Fin_cB false hv (kf rfl)
theorem Fin_g2 (b : Bool) (hg : gOK M K = true) (hv : x.f (gD K) = .bool b) (kt : b = true → Fin P X ro M (gnext (gJ K) true K) .normal ⟨sup x.f (gD K) (.bool true), x.h⟩ Q) (kf : b = false → Fin P X ro M (gnext (gJ K) false K) .normal ⟨sup x.f (gD K) (.bool false), x.h⟩ Q) : Fin P X ro M K .normal x Q := by
  cases b with
  | true => exact Fin_gB true hg hv (kt rfl)
  | false => exact Fin_gB false hg hv (kf rfl)
end Go.AM
