/-
  THE ABSTRACT EXECUTOR, KEPT IN TREES: slots and heap as binary trees, for runs by the kernel.
-/
import Derived.Test.YtknpjlcgjlnfbaaGreatDoorVc6
set_option linter.unusedSimpArgs false
set_option linter.unusedVariables false
namespace Go.AMT
open Go Go.AM

inductive Tr (α : Type) where
  | lf
  | nd (v : α) (l r : Tr α)
namespace Tr
variable {α : Type}
noncomputable def getv (d : α) (t : Tr α) : Nat → α :=
  Tr.rec (motive := fun _ => Nat → α) (fun _ => d) (fun v _ _ gl gr k => Bool.rec (motive := fun _ => α) (Bool.rec (motive := fun _ => α) (gr (Nat.sub (Nat.div k 2) 1)) (gl (Nat.div k 2)) (Nat.beq (Nat.mod k 2) 1)) v (Nat.beq k 0)) t
noncomputable def mk1 (d : α) (n : Nat) : Nat → α → Tr α :=
  Nat.rec (motive := fun _ => Nat → α → Tr α) (fun _ x => nd x lf lf) (fun _ ih k x => Bool.rec (motive := fun _ => Tr α) (Bool.rec (motive := fun _ => Tr α) (nd d lf (ih (Nat.sub (Nat.div k 2) 1) x)) (nd d (ih (Nat.div k 2) x) lf) (Nat.beq (Nat.mod k 2) 1)) (nd x lf lf) (Nat.beq k 0)) n
noncomputable def put (d : α) (t : Tr α) : Nat → α → Tr α :=
  Tr.rec (motive := fun _ => Nat → α → Tr α) (fun k x => mk1 d k k x) (fun v l r pl pr k x => Bool.rec (motive := fun _ => Tr α) (Bool.rec (motive := fun _ => Tr α) (nd v l (pr (Nat.sub (Nat.div k 2) 1) x)) (nd v (pl (Nat.div k 2) x) r) (Nat.beq (Nat.mod k 2) 1)) (nd x l r) (Nat.beq k 0)) t

theorem getv_lf (d : α) (k : Nat) : getv d lf k = d := rfl
theorem getv_nd (d v : α) (l r : Tr α) (k : Nat) : getv d (nd v l r) k = if k = 0 then v else if k % 2 = 1 then getv d l (k / 2) else getv d r (k / 2 - 1) := by
  show Bool.rec (motive := fun _ => α) (Bool.rec (motive := fun _ => α) (getv d r (k / 2 - 1)) (getv d l (k / 2)) (Nat.beq (k % 2) 1)) v (Nat.beq k 0) = _
  by_cases h : k = 0
  · subst h; rfl
  · have e : Nat.beq k 0 = false := by rw [Bool.eq_false_iff]; intro e; exact h (Nat.eq_of_beq_eq_true e)
    rw [e, if_neg h]
    by_cases h2 : k % 2 = 1
    · rw [if_pos h2, h2]; rfl
    · have e2 : Nat.beq (k % 2) 1 = false := by rw [Bool.eq_false_iff]; intro e; exact h2 (Nat.eq_of_beq_eq_true e)
      rw [e2, if_neg h2]
theorem mk1_zero (d : α) (k : Nat) (x : α) : mk1 d 0 k x = nd x lf lf := rfl
theorem mk1_succ (d : α) (n k : Nat) (x : α) : mk1 d (n + 1) k x = if k = 0 then nd x lf lf else if k % 2 = 1 then nd d (mk1 d n (k / 2) x) lf else nd d lf (mk1 d n (k / 2 - 1) x) := by
  show Bool.rec (motive := fun _ => Tr α) (Bool.rec (motive := fun _ => Tr α) (nd d lf (mk1 d n (k / 2 - 1) x)) (nd d (mk1 d n (k / 2) x) lf) (Nat.beq (k % 2) 1)) (nd x lf lf) (Nat.beq k 0) = _
  by_cases h : k = 0
  · subst h; rfl
  · have e : Nat.beq k 0 = false := by rw [Bool.eq_false_iff]; intro e; exact h (Nat.eq_of_beq_eq_true e)
    rw [e, if_neg h]
    by_cases h2 : k % 2 = 1
    · rw [if_pos h2, h2]; rfl
    · have e2 : Nat.beq (k % 2) 1 = false := by rw [Bool.eq_false_iff]; intro e; exact h2 (Nat.eq_of_beq_eq_true e)
      rw [e2, if_neg h2]
theorem put_lf (d : α) (k : Nat) (x : α) : put d lf k x = mk1 d k k x := rfl
theorem put_nd (d v : α) (l r : Tr α) (k : Nat) (x : α) : put d (nd v l r) k x = if k = 0 then nd x l r else if k % 2 = 1 then nd v (put d l (k / 2) x) r else nd v l (put d r (k / 2 - 1) x) := by
  show Bool.rec (motive := fun _ => Tr α) (Bool.rec (motive := fun _ => Tr α) (nd v l (put d r (k / 2 - 1) x)) (nd v (put d l (k / 2) x) r) (Nat.beq (k % 2) 1)) (nd x l r) (Nat.beq k 0) = _
  by_cases h : k = 0
  · subst h; rfl
  · have e : Nat.beq k 0 = false := by rw [Bool.eq_false_iff]; intro e; exact h (Nat.eq_of_beq_eq_true e)
    rw [e, if_neg h]
    by_cases h2 : k % 2 = 1
    · rw [if_pos h2, h2]; rfl
    · have e2 : Nat.beq (k % 2) 1 = false := by rw [Bool.eq_false_iff]; intro e; exact h2 (Nat.eq_of_beq_eq_true e)
      rw [e2, if_neg h2]

theorem get_mk1 (d x : α) : ∀ (n k j : Nat), k ≤ n → getv d (mk1 d n k x) j = if j = k then x else d := by
  intro n
  induction n with
  | zero =>
    intro k j hk
    obtain rfl : k = 0 := by omega
    rw [mk1_zero, getv_nd]
    by_cases h : j = 0
    · rw [if_pos h, if_pos h]
    · rw [if_neg h, if_neg h]; split <;> rfl
  | succ n ih =>
    intro k j hk
    rw [mk1_succ]
    by_cases h0 : k = 0
    · subst h0
      rw [if_pos rfl, getv_nd]
      by_cases h : j = 0
      · rw [if_pos h, if_pos h]
      · rw [if_neg h, if_neg h]; split <;> rfl
    · rw [if_neg h0]
      by_cases h2 : k % 2 = 1
      · rw [if_pos h2, getv_nd]
        by_cases hj : j = 0
        · rw [if_pos hj, if_neg (by omega)]
        · rw [if_neg hj]
          by_cases hj2 : j % 2 = 1
          · rw [if_pos hj2, ih _ _ (by omega)]
            by_cases e : j = k
            · subst e; simp
            · rw [if_neg e, if_neg (by omega)]
          · rw [if_neg hj2, getv_lf, if_neg (by omega)]
      · rw [if_neg h2, getv_nd]
        by_cases hj : j = 0
        · rw [if_pos hj, if_neg (by omega)]
        · rw [if_neg hj]
          by_cases hj2 : j % 2 = 1
          · rw [if_pos hj2, getv_lf, if_neg (by omega)]
          · rw [if_neg hj2, ih _ _ (by omega)]
            by_cases e : j = k
            · subst e; simp
            · rw [if_neg e, if_neg (by omega)]
theorem get_put (d x : α) : ∀ (t : Tr α) (k j : Nat), getv d (put d t k x) j = if j = k then x else getv d t j := by
  intro t
  induction t with
  | lf => intro k j; rw [put_lf, get_mk1 d x k k j (Nat.le_refl _), getv_lf]
  | nd v l r il ir =>
    intro k j
    rw [put_nd]
    by_cases h0 : k = 0
    · subst h0
      rw [if_pos rfl, getv_nd, getv_nd]
      by_cases h : j = 0
      · rw [if_pos h, if_pos h]
      · rw [if_neg h, if_neg h]; rw [if_neg h]
    · rw [if_neg h0]
      by_cases h2 : k % 2 = 1
      · rw [if_pos h2, getv_nd, getv_nd]
        by_cases hj : j = 0
        · rw [if_pos hj, if_neg (by omega), if_pos hj]
        · rw [if_neg hj, if_neg hj]
          by_cases hj2 : j % 2 = 1
          · rw [if_pos hj2, il, if_pos hj2]
            by_cases e : j = k
            · subst e; simp
            · rw [if_neg e, if_neg (by omega)]
          · rw [if_neg hj2, if_neg hj2, if_neg (by omega)]
      · rw [if_neg h2, getv_nd, getv_nd]
        by_cases hj : j = 0
        · rw [if_pos hj, if_neg (by omega), if_pos hj]
        · rw [if_neg hj, if_neg hj]
          by_cases hj2 : j % 2 = 1
          · rw [if_pos hj2, if_pos hj2, if_neg (by omega)]
          · rw [if_neg hj2, ir, if_neg hj2]
            by_cases e : j = k
            · subst e; simp
            · rw [if_neg e, if_neg (by omega)]

/-- A list, from its k-th place on. -/
noncomputable def ofL' (d : α) (l : List α) : Nat → Tr α → Tr α :=
  List.rec (motive := fun _ => Nat → Tr α → Tr α) (fun _ t => t) (fun x _ ih k t => ih (Nat.add k 1) (put d t k x)) l
noncomputable def ofL (d : α) (l : List α) : Tr α := ofL' d l 0 lf
theorem get_ofL' (d : α) : ∀ (l : List α) (k : Nat) (t : Tr α) (j : Nat), getv d (ofL' d l k t) j = if k ≤ j ∧ j < k + l.length then l.getD (j - k) d else getv d t j := by
  intro l
  induction l with
  | nil => intro k t j; rw [if_neg (by simp <;> omega)]; rfl
  | cons x l ih =>
    intro k t j
    show getv d (ofL' d l (k + 1) (put d t k x)) j = _
    rw [ih, get_put]
    simp only [List.length_cons]
    by_cases h1 : j = k
    · subst h1
      rw [if_neg (by omega), if_pos rfl, if_pos (by omega)]
      simp
    · by_cases h2 : k + 1 ≤ j ∧ j < k + 1 + l.length
      · rw [if_pos h2, if_pos (by omega)]
        have : j - k = (j - (k + 1)) + 1 := by omega
        rw [this, List.getD_cons_succ]
      · rw [if_neg h2, if_neg h1, if_neg (by omega)]
theorem get_ofL (d : α) (l : List α) (j : Nat) : getv d (ofL d l) j = l.getD j d := by
  unfold ofL
  rw [get_ofL']
  by_cases h : j < l.length
  · rw [if_pos (by omega)]; simp
  · rw [if_neg (by omega), getv_lf, List.getD_eq_getElem?_getD, List.getElem?_eq_none (by omega)]; rfl
end Tr

/-! ### The heap -/
noncomputable def slotsL (n : Nat) (t : Tr Value) : List Value := (List.range n).map (t.getv undef)
/-- An object; a loop keeps its slots as a tree. -/
inductive OT where
  | o (x : AObj)
  | lp (st : LoopState) (pd : Option Code) (n : Nat) (ts : Tr Value) (ps : List Tmp) (az bd : Code)
noncomputable def OT.toA : OT → AObj
  | .o x => x
  | .lp st pd n ts ps az bd => .loop st pd (slotsL n ts) ps az bd
structure TH where
  len : Nat
  tr : Tr OT
namespace TH
noncomputable def getO (h : TH) (b : Nat) : Option OT := Bool.rec (motive := fun _ => Option OT) none (some (h.tr.getv (.o .dead) b)) (Nat.blt b h.len)
noncomputable def get (h : TH) (b : Nat) : Option AObj := Bool.rec (motive := fun _ => Option AObj) none (some (h.tr.getv (.o .dead) b).toA) (Nat.blt b h.len)
noncomputable def putO (h : TH) (b : Nat) (o : OT) : TH := Bool.rec (motive := fun _ => TH) h ⟨h.len, h.tr.put (.o .dead) b o⟩ (Nat.blt b h.len)
noncomputable def pushO (h : TH) (o : OT) : TH := ⟨Nat.add h.len 1, h.tr.put (.o .dead) h.len o⟩
noncomputable def put (h : TH) (b : Nat) (o : AObj) : TH := h.putO b (.o o)
noncomputable def push (h : TH) (o : AObj) : TH := h.pushO (.o o)
noncomputable def ofL (l : AHeap) : TH := ⟨l.length, Tr.ofL (.o .dead) (l.map .o)⟩
/-- As a list. -/
noncomputable def toL (h : TH) : AHeap := (List.range h.len).map fun b => (h.tr.getv (.o .dead) b).toA
theorem toL_length (h : TH) : h.toL.length = h.len := by simp [toL]
theorem blt_eq (a b : Nat) : Nat.blt a b = decide (a < b) := by
  cases h : Nat.blt a b with
  | true => rw [Nat.blt_eq] at h; simp [h]
  | false =>
    symm; rw [decide_eq_false_iff_not]
    intro e; rw [← Nat.blt_eq, h] at e; simp at e
theorem toL_get (h : TH) (b : Nat) : h.toL[b]? = h.get b := by
  unfold toL get
  rw [List.getElem?_map, blt_eq]
  by_cases hb : b < h.len
  · rw [List.getElem?_range hb, decide_eq_true hb]; rfl
  · rw [List.getElem?_eq_none (by simpa using hb), decide_eq_false hb]; rfl
theorem get_getO (h : TH) (b : Nat) : h.get b = (h.getO b).map OT.toA := by
  unfold get getO
  cases Nat.blt b h.len <;> rfl
theorem toL_putO (h : TH) (b : Nat) (o : OT) : (h.putO b o).toL = h.toL.set b o.toA := by
  unfold putO
  rw [blt_eq]
  by_cases hb : b < h.len
  · rw [decide_eq_true hb]
    apply List.ext_getElem?
    intro i
    rw [List.getElem?_set, toL_length]
    show ((List.range h.len).map fun j => ((h.tr.put (.o .dead) b o).getv (.o .dead) j).toA)[i]? = _
    rw [List.getElem?_map]
    by_cases hi : i < h.len
    · rw [List.getElem?_range hi, Option.map_some, Tr.get_put]
      by_cases e : b = i
      · subst e; rw [if_pos rfl, if_pos rfl, if_pos hb]
      · rw [if_neg (fun h => e h.symm), if_neg e]
        show _ = ((List.range h.len).map fun j => (h.tr.getv (.o .dead) j).toA)[i]?
        rw [List.getElem?_map, List.getElem?_range hi]; rfl
    · rw [List.getElem?_eq_none (by simpa using hi)]
      by_cases e : b = i
      · omega
      · rw [if_neg e, List.getElem?_eq_none (by rw [toL_length]; omega)]; rfl
  · rw [decide_eq_false hb]
    show h.toL = _
    rw [List.set_eq_of_length_le (by rw [toL_length]; omega)]
theorem toL_put (h : TH) (b : Nat) (o : AObj) : (h.put b o).toL = h.toL.set b o := toL_putO h b (.o o)
theorem toL_pushO (h : TH) (o : OT) : (h.pushO o).toL = h.toL ++ [o.toA] := by
  apply List.ext_getElem?
  intro i
  show ((List.range (h.len + 1)).map fun j => ((h.tr.put (.o .dead) h.len o).getv (.o .dead) j).toA)[i]? = _
  rw [List.getElem?_map, List.getElem?_append, toL_length]
  by_cases hi : i < h.len
  · rw [List.getElem?_range (by omega), if_pos hi, Option.map_some, Tr.get_put, if_neg (by omega)]
    show _ = ((List.range h.len).map fun j => (h.tr.getv (.o .dead) j).toA)[i]?
    rw [List.getElem?_map, List.getElem?_range hi]; rfl
  · rw [if_neg hi]
    by_cases e : i = h.len
    · subst e; rw [List.getElem?_range (by omega), Option.map_some, Tr.get_put, if_pos rfl]; simp
    · rw [List.getElem?_eq_none (by simp; omega), List.getElem?_eq_none (by simp; omega)]; rfl
theorem toL_push (h : TH) (o : AObj) : (h.push o).toL = h.toL ++ [o] := toL_pushO h (.o o)
theorem toL_ofL (l : AHeap) : (ofL l).toL = l := by
  apply List.ext_getElem?
  intro i
  show ((List.range l.length).map fun j => ((Tr.ofL (OT.o .dead) (l.map OT.o)).getv (OT.o .dead) j).toA)[i]? = _
  rw [List.getElem?_map]
  by_cases hi : i < l.length
  · rw [List.getElem?_range hi, Option.map_some, Tr.get_ofL, List.getD_eq_getElem?_getD, List.getElem?_map, List.getElem?_eq_getElem hi]; rfl
  · rw [List.getElem?_eq_none (by simpa using hi), List.getElem?_eq_none (by omega)]; rfl
end TH

/-! ### Slots -/
noncomputable def atT (n : Nat) (t : Tr Value) (i : Nat) : Value := Bool.rec (motive := fun _ => Value) undef (t.getv undef i) (Nat.blt i n)
/-- A tree of slots stands for a list. -/
def RS (n : Nat) (tr : Tr Value) (t : List Value) : Prop := t.length = n ∧ ∀ k, k < n → tr.getv undef k = t.getD k undef
theorem RS.at {n : Nat} {tr : Tr Value} {t : List Value} (r : RS n tr t) (k : Nat) : atT n tr k = t.getD k undef := by
  unfold atT
  rw [TH.blt_eq]
  by_cases h : k < n
  · rw [decide_eq_true h]; exact r.2 k h
  · rw [decide_eq_false h, List.getD_eq_getElem?_getD, List.getElem?_eq_none (by rw [r.1]; omega)]; rfl
theorem RS.of (n : Nat) (tr : Tr Value) : RS n tr (slotsL n tr) := by
  refine ⟨by simp [slotsL], fun k hk => ?_⟩
  unfold slotsL
  rw [List.getD_eq_getElem?_getD, List.getElem?_map, List.getElem?_range hk]; rfl
theorem RS.list {n : Nat} {tr : Tr Value} {t : List Value} (r : RS n tr t) : slotsL n tr = t := by
  obtain ⟨rfl, h⟩ := r
  apply List.ext_getElem?
  intro i
  unfold slotsL
  rw [List.getElem?_map]
  by_cases hi : i < t.length
  · rw [List.getElem?_range hi, Option.map_some, h i hi, List.getD_eq_getElem?_getD, List.getElem?_eq_getElem hi]; rfl
  · rw [List.getElem?_eq_none (by simpa using hi), List.getElem?_eq_none (by omega)]; rfl
noncomputable def evT (n : Nat) (t : Tr Value) : Operand → Value
  | .tmp i => atT n t i
  | .const v => v
  | .global g => .pointer (some ⟨g, 0, none⟩)
  | .func f => .func (.func f) #[] #[]
noncomputable def putT (t : Tr Value) (dst : Option Tmp) (v : Value) : Tr Value :=
  match dst with
  | some d => t.put undef d v
  | none => t
theorem RS.ev {n : Nat} {tr : Tr Value} {t : List Value} (r : RS n tr t) : evT n tr = aeval t := by
  funext x
  cases x with
  | tmp i => exact r.at i
  | _ => rfl
theorem RS.set {n : Nat} {tr : Tr Value} {t : List Value} (r : RS n tr t) (d : Nat) (v : Value) : RS n (tr.put undef d v) (t.set d v) := by
  refine ⟨by simpa using r.1, fun k hk => ?_⟩
  rw [Tr.get_put, r.2 k hk, List.getD_eq_getElem?_getD, List.getD_eq_getElem?_getD, List.getElem?_set, r.1]
  by_cases e : d = k
  · subst e; rw [if_pos rfl, if_pos rfl, if_pos hk]; rfl
  · rw [if_neg (fun h => e h.symm), if_neg e]
theorem RS.put {n : Nat} {tr : Tr Value} {t : List Value} (r : RS n tr t) (d : Option Tmp) (v : Value) : RS n (putT tr d v) (aput t d v) := by
  cases d with
  | none => exact r
  | some d => exact r.set d v
theorem RS.start (n : Nat) (args : List Value) (h : args.length ≤ n) : RS n (Tr.ofL undef args) (args ++ List.replicate (n - args.length) undef) := by
  refine ⟨by simp; omega, fun k _ => ?_⟩
  rw [Tr.get_ofL, List.getD_eq_getElem?_getD, List.getD_eq_getElem?_getD, List.getElem?_append]
  by_cases hk : k < args.length
  · rw [if_pos hk]
  · rw [if_neg hk, List.getElem?_eq_none (by omega), List.getElem?_replicate]
    split <;> rfl
noncomputable def yieldedT (n : Nat) (ops : Array Oper) (t : Tr Value) (j : Nat) : Option Bool :=
  match (ops[j]?).bind (·.dst) with
  | some d => match atT n t d with
    | .bool b => some b
    | _ => none
  | none => none
theorem RS.yielded {n : Nat} {tr : Tr Value} {t : List Value} (r : RS n tr t) (ops : Array Oper) : yieldedT n ops tr = ayielded ops t := by
  funext j
  unfold yieldedT ayielded
  cases (ops[j]?).bind (·.dst) with
  | none => rfl
  | some d =>
    simp only [Option.bind_some]
    rw [r.at, List.getD_eq_getElem?_getD]
    cases t[d]? with
    | none => rfl
    | some v => cases v <;> rfl
end Go.AMT
