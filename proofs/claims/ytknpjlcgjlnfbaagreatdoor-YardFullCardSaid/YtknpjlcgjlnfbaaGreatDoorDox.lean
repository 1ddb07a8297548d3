/-
  Lines that a yard does at given states: a table of runs by the kernel, as one contract.
-/
import Derived.Test.YtknpjlcgjlnfbaaGreatDoorKt
import Derived.Test.YtknpjlcgjlnfbaaGreatDoorNc
set_option linter.unusedSimpArgs false
set_option linter.unusedVariables false
set_option maxRecDepth 100000
namespace Go.Proofs.YtknpjlcgjlnfbaaGreatDoor
open Go Go.AM Go.AMT

/-- Of some objects nothing is told any more. -/
theorem HRel.prune {G : Nat} {ρ : Rho} {h h' : AHeap} {w : World} (H : HRel G ρ h w) (hl : h'.length = h.length) (hs : ∀ (k : Nat) (o : AObj), h'[k]? = some o → o = .dead ∨ h[k]? = some o) :
    HRel G ρ h' w ∧ Fr ρ h w ρ h' w := by
  have live : ∀ {k : Nat} {o : AObj}, h'[k]? = some o → o.live = true → h[k]? = some o := by
    intro k o hk ho
    rcases hs k o hk with rfl | h
    · simp [AObj.live] at ho
    · exact h
  have own : ∀ {k : Nat} {o : AObj}, h'[k]? = some o → o.own = true → h[k]? = some o := by
    intro k o hk ho
    rcases hs k o hk with rfl | h
    · simp [AObj.own] at ho
    · exact h
  refine ⟨⟨fun b o hb ho => H.dom b o (live hb ho) ho, ?_, H.lt, fun b p hp => by rw [hl]; exact H.bd b p hp, fun b b' o o' p p' hne hb hb' hp hp' ho ho' => H.sep b b' o o' p p' hne (own hb ho) (live hb' ho') hp hp' ho ho', H.glob, fun b o p hb hp ho => H.gown b o p (own hb ho) hp ho, H.gsz⟩,
    ⟨.refl ρ, Nat.le_refl _, rfl, rfl, rfl, fun b o p hb ho hp _ => ⟨b, o, p, own hb ho, ho, hp, rfl⟩, fun b o p hb ho hp _ => ⟨b, o, p, live hb ho, ho, hp, rfl⟩, fun _ _ _ => rfl⟩⟩
  intro b o p hb hp
  rcases hs b o hb with rfl | h
  · trivial
  · exact H.obj b o p h hp

def sameE : List (Value × Value) → List (Value × Value) → Bool
  | [], [] => true
  | (a, b) :: l, (c, d) :: m => same a c && (same b d && sameE l m)
  | _, _ => false
def sameO : AObj → AObj → Bool
  | .row a o, .row b p => sameL a b && o == p
  | .amap a, .amap b => sameE a b
  | .dead, .dead => true
  | _, _ => false
theorem sameE_eq : ∀ {a b : List (Value × Value)}, sameE a b = true → a = b := by
  intro a
  induction a with
  | nil => intro b h; cases b <;> simp [sameE] at h ⊢
  | cons p a ih =>
    intro b h
    cases b with
    | nil => simp [sameE] at h
    | cons q b =>
      obtain ⟨x, y⟩ := p; obtain ⟨z, u⟩ := q
      simp only [sameE, Bool.and_eq_true] at h
      rw [same_eq h.1, same_eq h.2.1, ih h.2.2]
theorem sameO_eq {a b : AObj} (h : sameO a b = true) : a = b := by
  cases a <;> cases b <;> simp only [sameO, Bool.and_eq_true, beq_iff_eq, Bool.false_eq_true] at h
  · rw [sameL_eq h.1, h.2]
  · rfl
  · rw [sameE_eq h]
def sameH : AHeap → AHeap → Bool
  | [], [] => true
  | a :: l, b :: m => sameO a b && sameH l m
  | _, _ => false
theorem sameH_eq : ∀ {a b : AHeap}, sameH a b = true → a = b := by
  intro a
  induction a with
  | nil => intro b h; cases b <;> simp [sameH] at h ⊢
  | cons p a ih =>
    intro b h
    cases b with
    | nil => simp [sameH] at h
    | cons q b =>
      simp only [sameH, Bool.and_eq_true] at h
      rw [sameO_eq h.1, ih h.2]

noncomputable def prunedL (th : TH) : List AObj → Nat → Bool
  | [], _ => true
  | o :: r, k => (match o with
    | .dead => true
    | o => match th.get k with
      | some x => sameO x o
      | none => false) && prunedL th r (Nat.add k 1)
noncomputable def pruned (th : TH) (l : AHeap) : Bool := Nat.beq th.len l.length && prunedL th l 0
theorem prunedL_spec {th : TH} : ∀ {l : AHeap} {k : Nat}, prunedL th l k = true → ∀ i o, l[i]? = some o → o = .dead ∨ th.toL[k + i]? = some o := by
  intro l
  induction l with
  | nil => intro k _ i o h; simp at h
  | cons a l ih =>
    intro k h i o hi
    simp only [prunedL, Bool.and_eq_true] at h
    cases i with
    | zero =>
      simp only [List.getElem?_cons_zero, Option.some.injEq] at hi
      subst hi
      have h1 := h.1
      split at h1
      · exact Or.inl rfl
      · split at h1
        · rename_i x hx
          right
          rw [TH.toL_get, Nat.add_zero, hx, sameO_eq h1]
        · simp at h1
    | succ i =>
      have := ih h.2 i o (by simpa using hi)
      rw [show k + (i + 1) = Nat.add k 1 + i by show _ = k + 1 + i; omega]
      exact this
theorem pruned_spec {th : TH} {l : AHeap} (h : pruned th l = true) : l.length = th.toL.length ∧ ∀ (k : Nat) (o : AObj), l[k]? = some o → o = .dead ∨ th.toL[k]? = some o := by
  simp only [pruned, Bool.and_eq_true] at h
  refine ⟨by rw [TH.toL_length]; exact (Nat.eq_of_beq_eq_true h.1).symm, fun k o hk => ?_⟩
  have := prunedL_spec h.2 k o hk
  simpa using this

/-- A line done at a state. -/
structure Ent where
  line : List UInt8
  before : AHeap
  reply : List UInt8
  after : AHeap
def yPtr : Value := .pointer (some ⟨16, 0, none⟩)
noncomputable def stepOK (e : Ent) : Bool :=
  match acallT Tryz.prog AXLT nc 300 (.fn 14) [yPtr, .string ⟨e.line.toArray⟩] (TH.ofL e.before) with
  | some (.string r, th) => r.data.toList == e.reply && pruned th e.after
  | _ => false
def lookE : List Ent → List UInt8 → AHeap → Option (Value × AHeap)
  | [], _, _ => none
  | e :: r, l, h => bif l == e.line && sameH h e.before then some (.string ⟨e.reply.toArray⟩, e.after) else lookE r l h
def doX (tab : List Ent) (args : List Value) (h : AHeap) : Option (Value × AHeap) :=
  match args with
  | [p, .string l] => bif same p yPtr then lookE tab l.data.toList h else none
  | _ => none
theorem lookE_spec : ∀ {tab : List Ent} {l : List UInt8} {h h' : AHeap} {v : Value}, lookE tab l h = some (v, h') → ∃ e ∈ tab, l = e.line ∧ h = e.before ∧ v = .string ⟨e.reply.toArray⟩ ∧ h' = e.after := by
  intro tab
  induction tab with
  | nil => intro l h h' v hr; simp [lookE] at hr
  | cons e r ih =>
    intro l h h' v hr
    simp only [lookE] at hr
    cases hc : (l == e.line && sameH h e.before) with
    | true =>
      rw [hc] at hr
      simp only [cond_true, Option.some.injEq, Prod.mk.injEq] at hr
      simp only [Bool.and_eq_true, beq_iff_eq] at hc
      exact ⟨e, by simp, hc.1, sameH_eq hc.2, hr.1.symm, hr.2.symm⟩
    | false =>
      rw [hc] at hr
      simp only [cond_false] at hr
      obtain ⟨e', h1, h2⟩ := ih hr
      exact ⟨e', by simp [h1], h2⟩
theorem ba_of (l : ByteArray) : (⟨l.data.toList.toArray⟩ : ByteArray) = l := by cases l; simp
theorem doX_fnok {W : World} (Y : YW W) {tab : List Ent} (hT : ∀ e ∈ tab, stepOK e = true) {ρ : Rho} {h h' : AHeap} {w : World} {args : List Value} {args' : Array Value} {v : Value} (hr : doX tab args h = some (v, h'))
    (H : HRel Tryz.prog.globals.size ρ h w) (K : Kept Tryz.prog.globals.size W w) (ha : LRel ρ args args'.toList) : FnOK Tryz.prog Tryz.prog.globals.size ρ h w 14 args' v h' := by
  unfold doX at hr
  split at hr
  · rename_i p l
    cases hp : same p yPtr with
    | false => rw [hp] at hr; simp at hr
    | true =>
      rw [hp] at hr
      simp only [cond_true] at hr
      obtain rfl := same_eq hp
      obtain ⟨e, he, h1, rfl, rfl, rfl⟩ := lookE_spec hr
      have hs := hT e he
      unfold stepOK at hs
      rw [← h1, ba_of] at hs
      split at hs
      · rename_i r th hrun
        simp only [Bool.and_eq_true, beq_iff_eq] at hs
        have hrun2 := acallT_t AXLT_ok calm_all 300 _ _ _ _ _ hrun
        rw [TH.toL_ofL] at hrun2
        obtain ⟨r1, r2⟩ := acall_sound mixed progOK' (AXL_ok Y) 300 (.fn 14) _ _ _ _ hrun2 ρ w args' H K ha
        refine ⟨r1, fun cs => ?_⟩
        obtain ⟨ρ', v', w', fr, q1, q2, q3, q4⟩ := r2 cs
        obtain ⟨s1, s2⟩ := pruned_spec hs.2
        obtain ⟨k1, k2⟩ := HRel.prune q2 s1 s2
        refine ⟨ρ', v', w', fr, ?_, k1, q3.trans k2, q4⟩
        rw [← hs.1, ba_of]
        exact q1
      · simp at hs
  · simp at hr
/-- The contracts, and the table's. -/
def AXD (tab : List Ent) : Ext := fun f => bif Nat.beq f 14 then some (doX tab) else AXL f
theorem AXD_ok {W : World} (Y : YW W) {tab : List Ent} (hT : ∀ e ∈ tab, stepOK e = true) : ExtOK Tryz.prog W (AXD tab) := by
  intro f c hc args h v h' hr ρ w args' H K ha
  unfold AXD at hc
  cases hf : Nat.beq f 14 with
  | true =>
    obtain rfl := Nat.eq_of_beq_eq_true hf
    rw [hf] at hc
    simp only [cond_true, Option.some.injEq] at hc
    subst hc
    exact doX_fnok Y hT hr H K ha
  | false =>
    rw [hf] at hc
    simp only [cond_false] at hc
    exact AXL_ok Y f c hc args h v h' hr ρ w args' H K ha
end Go.Proofs.YtknpjlcgjlnfbaaGreatDoor
