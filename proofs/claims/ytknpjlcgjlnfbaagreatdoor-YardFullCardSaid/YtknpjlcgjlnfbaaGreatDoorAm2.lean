/-
  THE ABSTRACT EXECUTOR: how its values and heaps stand to the world's.
-/
import Derived.Test.YtknpjlcgjlnfbaaGreatDoorAm1
namespace Go.AM

/-- Where an abstract block lies: block, where it begins there, where what it may claim ends. -/
structure Pl where
  blk : Nat
  sh : Nat
  en : Nat
abbrev Rho := Nat → Option Pl

inductive VRel (ρ : Rho) : Value → Value → Prop
  | bool (b) : VRel ρ (.bool b) (.bool b)
  | int (k n) : VRel ρ (.int k n) (.int k n)
  | float (k n) : VRel ρ (.float k n) (.float k n)
  | complex (k m n) : VRel ρ (.complex k m n) (.complex k m n)
  | string (s) : VRel ρ (.string s) (.string s)
  | nilptr : VRel ρ (.pointer none) (.pointer none)
  | ptr {b o p} (h : ρ b = some p) : VRel ρ (.pointer (some ⟨b, o, none⟩)) (.pointer (some ⟨p.blk, p.sh + o, none⟩))
  | nilslice : VRel ρ (.slice none 0 0) (.slice none 0 0)
  | slice {b o p sz len k cap} (h : ρ b = some p) (hl : len ≤ cap) (hc : p.sh + o + cap * sz ≤ p.en) (hx : k = len → cap = len) :
      VRel ρ (.slice (some ⟨b, o, some sz⟩) len k) (.slice (some ⟨p.blk, p.sh + o, none⟩) len cap)
  | slice0 (b o sz a k) : VRel ρ (.slice (some ⟨b, o, some sz⟩) 0 k) (.slice (some a) 0 0)
  | nilmap : VRel ρ (.map none) (.map none)
  | map {b p} (h : ρ b = some p) : VRel ρ (.map (some b)) (.map (some p.blk))
  | nilFunc : VRel ρ .nilFunc .nilFunc
  | nilIface : VRel ρ .nilIface .nilIface
  | func (f) {x y x' y' : Array Value} (hx : x.size = x'.size) (hy : y.size = y'.size)
      (h1 : ∀ i (h : i < x.size) (h' : i < x'.size), VRel ρ x[i] x'[i]) (h2 : ∀ i (h : i < y.size) (h' : i < y'.size), VRel ρ y[i] y'[i]) :
      VRel ρ (.func (.func f) x y) (.func (.func f) x' y')
  | yield {l p} (h : ρ l = some p) : VRel ρ (.func (.yield l) #[] #[]) (.func (.yield p.blk) #[] #[])
  | iface (t) {v v'} (h : VRel ρ v v') : VRel ρ (.iface t v) (.iface t v')
  | agg {x x' : Array Value} (hx : x.size = x'.size) (h : ∀ i (h : i < x.size) (h' : i < x'.size), VRel ρ x[i] x'[i]) : VRel ρ (.agg x) (.agg x')
  | tuple {x x' : Array Value} (hx : x.size = x'.size) (h : ∀ i (h : i < x.size) (h' : i < x'.size), VRel ρ x[i] x'[i]) : VRel ρ (.tuple x) (.tuple x')

def RhoLe (ρ ρ' : Rho) : Prop := ∀ b p, ρ b = some p → ρ' b = some p
theorem RhoLe.refl (ρ : Rho) : RhoLe ρ ρ := fun _ _ h => h
theorem RhoLe.trans {a b c : Rho} (h : RhoLe a b) (k : RhoLe b c) : RhoLe a c := fun i p hp => k i p (h i p hp)

theorem VRel.mono {ρ ρ' : Rho} (hρ : RhoLe ρ ρ') {v v' : Value} (h : VRel ρ v v') : VRel ρ' v v' := by
  induction h with
  | bool b => exact .bool b
  | int k n => exact .int k n
  | float k n => exact .float k n
  | complex k m n => exact .complex k m n
  | string s => exact .string s
  | nilptr => exact .nilptr
  | ptr h => exact .ptr (hρ _ _ h)
  | nilslice => exact .nilslice
  | slice h hl hc hx => exact .slice (hρ _ _ h) hl hc hx
  | slice0 b o sz a k => exact .slice0 b o sz a k
  | nilmap => exact .nilmap
  | map h => exact .map (hρ _ _ h)
  | nilFunc => exact .nilFunc
  | nilIface => exact .nilIface
  | func f hx hy _ _ ih1 ih2 => exact .func f hx hy ih1 ih2
  | yield h => exact .yield (hρ _ _ h)
  | iface t _ ih => exact .iface t ih
  | agg hx _ ih => exact .agg hx ih
  | tuple hx _ ih => exact .tuple hx ih

theorem VRel.undef (ρ : Rho) : VRel ρ Go.undef Go.undef := .tuple rfl (fun i h => by simp at h)

/-! ### Lists of values -/
inductive LRel (ρ : Rho) : List Value → List Value → Prop
  | nil : LRel ρ [] []
  | cons {v v' l l'} (h : VRel ρ v v') (t : LRel ρ l l') : LRel ρ (v :: l) (v' :: l')

theorem LRel.length {ρ : Rho} {l l' : List Value} (h : LRel ρ l l') : l.length = l'.length := by
  induction h with
  | nil => rfl
  | cons _ _ ih => simp [ih]
theorem LRel.mono {ρ ρ' : Rho} (hρ : RhoLe ρ ρ') {l l' : List Value} (h : LRel ρ l l') : LRel ρ' l l' := by
  induction h with
  | nil => exact .nil
  | cons h _ ih => exact .cons (h.mono hρ) ih
theorem LRel.get? {ρ : Rho} {l l' : List Value} (h : LRel ρ l l') : ∀ {i : Nat} {v : Value}, l[i]? = some v → ∃ v', l'[i]? = some v' ∧ VRel ρ v v' := by
  induction h with
  | nil => intro i v h; simp at h
  | cons h _ ih =>
    intro i v hv
    cases i with
    | zero => simp at hv; subst hv; exact ⟨_, rfl, h⟩
    | succ i => simp at hv; obtain ⟨v', h1, h2⟩ := ih hv; exact ⟨v', by simpa using h1, h2⟩
theorem LRel.none? {ρ : Rho} {l l' : List Value} (h : LRel ρ l l') {i : Nat} (hn : l[i]? = none) : l'[i]? = none := by
  rw [List.getElem?_eq_none_iff] at *; rw [← h.length]; exact hn
theorem LRel.of_get {ρ : Rho} : ∀ {l l' : List Value}, l.length = l'.length → (∀ (i : Nat) (h : i < l.length) (h' : i < l'.length), VRel ρ l[i] l'[i]) → LRel ρ l l'
  | [], [], _, _ => .nil
  | v :: l, v' :: l', hl, h => .cons (h 0 (by simp) (by simp)) (LRel.of_get (by simpa using hl) (fun i hi hi' => h (i + 1) (by simpa using hi) (by simpa using hi')))
theorem LRel.getD {ρ : Rho} {l l' : List Value} (h : LRel ρ l l') (i : Nat) : VRel ρ (l.getD i undef) (l'.getD i undef) := by
  rw [List.getD_eq_getElem?_getD, List.getD_eq_getElem?_getD]
  cases hv : l[i]? with
  | none => rw [h.none? hv]; exact .undef ρ
  | some v => obtain ⟨v', h1, h2⟩ := h.get? hv; rw [h1]; exact h2
theorem LRel.append {ρ : Rho} {a a' b b' : List Value} (h : LRel ρ a a') (k : LRel ρ b b') : LRel ρ (a ++ b) (a' ++ b') := by
  induction h with
  | nil => exact k
  | cons h _ ih => exact .cons h ih
theorem LRel.take {ρ : Rho} {a a' : List Value} (h : LRel ρ a a') : ∀ (n : Nat), LRel ρ (a.take n) (a'.take n) := by
  induction h with
  | nil => intro n; simp; exact .nil
  | cons h _ ih => intro n; cases n with
    | zero => exact .nil
    | succ n => exact .cons h (ih n)
theorem LRel.drop {ρ : Rho} {a a' : List Value} (h : LRel ρ a a') : ∀ (n : Nat), LRel ρ (a.drop n) (a'.drop n) := by
  induction h with
  | nil => intro n; simp; exact .nil
  | cons h t ih => intro n; cases n with
    | zero => exact .cons h t
    | succ n => exact ih n
theorem LRel.set {ρ : Rho} {a a' : List Value} (h : LRel ρ a a') {v v' : Value} (hv : VRel ρ v v') : ∀ (n : Nat), LRel ρ (a.set n v) (a'.set n v') := by
  induction h with
  | nil => intro n; exact .nil
  | cons h t ih => intro n; cases n with
    | zero => exact .cons hv t
    | succ n => exact .cons h (ih n)
theorem LRel.splice {ρ : Rho} {a a' v v' : List Value} (h : LRel ρ a a') (hv : LRel ρ v v') (o : Nat) : LRel ρ (splice a o v) (splice a' o v') := by
  unfold AM.splice
  rw [← hv.length]
  exact ((h.take o).append hv).append (h.drop _)
theorem LRel.replicate {ρ : Rho} {v v' : Value} (h : VRel ρ v v') (n : Nat) : LRel ρ (List.replicate n v) (List.replicate n v') := by
  induction n with
  | zero => exact .nil
  | succ n ih => exact .cons h ih
theorem LRel.toArray {ρ : Rho} {x x' : Array Value} (hx : x.size = x'.size) (h : ∀ i (h : i < x.size) (h' : i < x'.size), VRel ρ x[i] x'[i]) : LRel ρ x.toList x'.toList :=
  .of_get (by simpa using hx) (fun i hi hi' => by simpa using h i (by simpa using hi) (by simpa using hi'))
theorem LRel.agg {ρ : Rho} {l l' : List Value} (h : LRel ρ l l') : VRel ρ (.agg l.toArray) (.agg l'.toArray) := by
  refine .agg (by simpa using h.length) (fun i hi hi' => ?_)
  have := h.get? (i := i) (v := l[i]'(by simpa using hi)) (by simp)
  obtain ⟨v', h1, h2⟩ := this
  rw [List.getElem?_eq_getElem (by simpa using hi')] at h1
  simp only [Option.some.injEq] at h1
  simpa [h1] using h2
theorem LRel.tuple {ρ : Rho} {l l' : List Value} (h : LRel ρ l l') : VRel ρ (.tuple l.toArray) (.tuple l'.toArray) := by
  have := h.agg
  cases this with
  | agg hx h => exact .tuple hx h
theorem VRel.aggList {ρ : Rho} {x x' : Array Value} (h : VRel ρ (.agg x) (.agg x')) : LRel ρ x.toList x'.toList := by
  cases h with
  | agg hx h => exact .toArray hx h
theorem VRel.tupleList {ρ : Rho} {x x' : Array Value} (h : VRel ρ (.tuple x) (.tuple x')) : LRel ρ x.toList x'.toList := by
  cases h with
  | tuple hx h => exact .toArray hx h
theorem VRel.cells {ρ : Rho} {v v' : Value} (h : VRel ρ v v') : LRel ρ v.cells.toList v'.cells.toList := by
  cases h <;> first
    | exact .cons (by constructor <;> assumption) .nil
    | (rename_i hx h; exact .toArray hx h)
    | skip
theorem VRel.isCell {ρ : Rho} {v v' : Value} (h : VRel ρ v v') : isCell v' = isCell v := by cases h <;> rfl
theorem VRel.isData {ρ : Rho} {v v' : Value} (h : VRel ρ v v') : isData v' = isData v := by cases h <;> rfl
theorem VRel.cellsSize {ρ : Rho} {v v' : Value} (h : VRel ρ v v') : v'.cells.size = v.cells.size := by
  have := h.cells.length; simpa using this.symm

theorem constsOK_get : ∀ {l : List Value}, constsOK l = true → ∀ v ∈ l, constOK v = true
  | [], _, v, hv => by simp at hv
  | a :: l, h, v, hv => by
    simp only [constsOK, Bool.and_eq_true] at h
    rcases List.mem_cons.1 hv with rfl | hv
    · exact h.1
    · exact constsOK_get h.2 v hv

theorem constOK_refl (ρ : Rho) : ∀ {v : Value}, constOK v = true → VRel ρ v v := by
  intro v
  induction hn : SizeOf.sizeOf v using Nat.strongRecOn generalizing v with
  | _ n ih =>
    intro h
    subst hn
    have arr : ∀ (x : Array Value), SizeOf.sizeOf x < SizeOf.sizeOf v → constsOK x.toList = true → ∀ i (h : i < x.size) (_ : i < x.size), VRel ρ x[i] x[i] := by
      intro x hx hc i hi _
      refine ih (SizeOf.sizeOf x[i]) ?_ rfl (constsOK_get hc _ (by simp))
      have := Array.sizeOf_getElem x i hi
      omega
    cases v with
    | bool b => exact .bool b
    | int k n => exact .int k n
    | float k n => exact .float k n
    | complex k m n => exact .complex k m n
    | string s => exact .string s
    | nilFunc => exact .nilFunc
    | nilIface => exact .nilIface
    | pointer a => cases a with
      | none => exact .nilptr
      | some a => simp [constOK] at h
    | slice a l c =>
      cases a with
      | some a => simp [constOK] at h
      | none =>
        cases l with
        | succ l => simp [constOK] at h
        | zero => cases c with
          | succ c => simp [constOK] at h
          | zero => exact .nilslice
    | map a => cases a with
      | none => exact .nilmap
      | some a => simp [constOK] at h
    | chan a => simp [constOK] at h
    | func f x y =>
      cases f with
      | func f =>
        simp only [constOK, Bool.and_eq_true] at h
        exact .func f rfl rfl (arr x (by simp; omega) h.1) (arr y (by simp; omega) h.2)
      | _ => simp [constOK] at h
    | iface t v =>
      simp only [constOK] at h
      exact .iface t (ih (SizeOf.sizeOf v) (by simp; omega) rfl h)
    | agg cs =>
      simp only [constOK] at h
      exact .agg rfl (arr cs (by simp) h)
    | tuple cs =>
      simp only [constOK] at h
      exact .tuple rfl (arr cs (by simp) h)

theorem constsOK_refl (ρ : Rho) {l : List Value} (h : constsOK l = true) : LRel ρ l l := by
  induction l with
  | nil => exact .nil
  | cons v l ih => simp only [constsOK, Bool.and_eq_true] at h; exact .cons (constOK_refl ρ h.1) (ih h.2)

/-! ### Code all of whose constants and variables are such -/
def opndOK (G : Nat) : Operand → Bool
  | .const v => constOK v
  | .global g => g < G
  | _ => true
def operOK (G : Nat) (o : Oper) : Bool := o.op.operands.toList.all (opndOK G)
def codeOK (G : Nat) : Code → Bool
  | .region _ ops _ => ops.toList.all (operOK G)
  | .seq a b => codeOK G a && codeOK G b
  | .cond c a b => opndOK G c && codeOK G a && codeOK G b
  | .block _ a | .loop a | .scope a => codeOK G a
  | .rangeFunc f _ a b => opndOK G f && codeOK G a && codeOK G b
  | _ => true

/-! ### Heaps -/
def AObj.own : AObj → Bool
  | .row _ o => o
  | .dead => false
  | _ => true
def AObj.live : AObj → Bool
  | .dead => false
  | _ => true

/-- A loop's record in the world. -/
structure LoopIs (ρ : Rho) (G : Nat) (L : Loop) (st : LoopState) (pd : Option Code) (ts : List Value) (ps : List Tmp) (as bd : Code) : Prop where
  state : L.state = st
  pending : L.pending = pd
  params : L.params.toList = ps
  assign : L.assign = as
  body : L.body = bd
  tmps : LRel ρ ts L.tmps.toList
  okA : codeOK G as = true
  okB : codeOK G bd = true

inductive ERel (ρ : Rho) : List (Value × Value) → List MapEntry → Prop
  | nil : ERel ρ [] []
  | cons {k v : Value} {e : MapEntry} {es es'} (hk : VRel ρ k e.key) (hv : VRel ρ v e.val) (t : ERel ρ es es') : ERel ρ ((k, v) :: es) (e :: es')

theorem ERel.mono {ρ ρ' : Rho} (hρ : RhoLe ρ ρ') {es : List (Value × Value)} {l : List MapEntry} (h : ERel ρ es l) : ERel ρ' es l := by
  induction h with
  | nil => exact .nil
  | cons hk hv _ ih => exact .cons (hk.mono hρ) (hv.mono hρ) ih

/-- The stamps of a map's entries: no two alike, and all of them past. -/
def BornOK (es : List MapEntry) (clock : Nat) : Prop := (es.map (·.born)).Nodup ∧ ∀ e ∈ es, e.born < clock
theorem BornOK.nil (c : Nat) : BornOK [] c := ⟨by simp, fun e he => by simp at he⟩
theorem BornOK.push {es : List MapEntry} {c : Nat} (h : BornOK es c) {e : MapEntry} (he : e.born = c) : BornOK (es ++ [e]) (c + 1) := by
  refine ⟨?_, fun x hx => ?_⟩
  · rw [List.map_append, List.nodup_append]
    refine ⟨h.1, by simp, fun a ha b hb => ?_⟩
    simp only [List.map_cons, List.map_nil, List.mem_singleton] at hb
    rw [List.mem_map] at ha
    obtain ⟨x, hx, rfl⟩ := ha
    have := h.2 x hx
    omega
  · rcases List.mem_append.1 hx with hx | hx
    · have := h.2 x hx; omega
    · simp only [List.mem_singleton] at hx; subst hx; omega
theorem modify_map_born {f : MapEntry → MapEntry} (hf : ∀ e, (f e).born = e.born) : ∀ (es : List MapEntry) (j : Nat), (es.modify j f).map (·.born) = es.map (·.born)
  | [], j => by simp
  | e :: es, 0 => by simp [hf]
  | e :: es, j + 1 => by simp [modify_map_born hf es j]
theorem BornOK.modify {es : List MapEntry} {c : Nat} (h : BornOK es c) (j : Nat) {f : MapEntry → MapEntry} (hf : ∀ e, (f e).born = e.born) : BornOK (es.modify j f) c := by
  have e1 := modify_map_born hf es j
  refine ⟨by rw [e1]; exact h.1, fun x hx => ?_⟩
  have : x.born ∈ (es.modify j f).map (·.born) := List.mem_map.2 ⟨x, hx, rfl⟩
  rw [e1, List.mem_map] at this
  obtain ⟨y, hy, e⟩ := this
  rw [← e]; exact h.2 y hy
theorem BornOK.erase {es : List MapEntry} {c : Nat} (h : BornOK es c) (j : Nat) : BornOK (es.eraseIdx j) c :=
  ⟨h.1.sublist ((List.eraseIdx_sublist es j).map _), fun x hx => h.2 x ((List.eraseIdx_sublist es j).subset hx)⟩

def ObjRel (G : Nat) (ρ : Rho) (w : World) (p : Pl) : AObj → Prop
  | .row cs own => ∃ (c : Array Value) (t : TypeId) (fz : Nat × Nat), w.heap[p.blk]? = some (.cells c t fz) ∧ p.sh + cs.length ≤ c.size ∧
      (∀ (i : Nat) (v : Value), cs[i]? = some v → ∃ v', c[p.sh + i]? = some v' ∧ VRel ρ v v') ∧
      p.sh + cs.length ≤ p.en ∧ (own = true → p.en ≤ c.size ∧ ∀ o, p.sh ≤ o → o < p.en → ¬(fz.1 ≤ o ∧ o < fz.2))
  | .dead => True
  | .siter s pos => w.heap[p.blk]? = some (.stringIter s pos) ∧ p.sh = 0
  | .amap es => ∃ (es' : Array MapEntry) (clock : Nat), w.heap[p.blk]? = some (.map es' clock) ∧ ERel ρ es es'.toList ∧ BornOK es'.toList clock
  | .loop st pd ts ps as bd => ∃ L : Loop, w.heap[p.blk]? = some (.loop L) ∧ LoopIs ρ G L st pd ts ps as bd

/-- The abstract heap h stands for the world w. G: how many variables of packages the program has. -/
structure HRel (G : Nat) (ρ : Rho) (h : AHeap) (w : World) : Prop where
  dom : ∀ (b : Nat) (o : AObj), h[b]? = some o → o.live = true → ∃ p, ρ b = some p
  obj : ∀ (b : Nat) (o : AObj) (p : Pl), h[b]? = some o → ρ b = some p → ObjRel G ρ w p o
  lt : ∀ (b : Nat) (p : Pl), ρ b = some p → p.blk < w.heap.size
  bd : ∀ (b : Nat) (p : Pl), ρ b = some p → b < h.length
  sep : ∀ (b b' : Nat) (o o' : AObj) (p p' : Pl), b ≠ b' → h[b]? = some o → h[b']? = some o' → ρ b = some p → ρ b' = some p' → o.own = true → o'.live = true → p.blk ≠ p'.blk
  glob : ∀ g, g < G → ∃ en, ρ g = some ⟨g, 0, en⟩
  gown : ∀ (b : Nat) (o : AObj) (p : Pl), h[b]? = some o → ρ b = some p → o.own = true → G ≤ p.blk
  gsz : G ≤ w.heap.size

/-- What a run leaves as it was. -/
structure Fr (ρ : Rho) (h : AHeap) (w : World) (ρ' : Rho) (h' : AHeap) (w' : World) : Prop where
  ext : RhoLe ρ ρ'
  size : w.heap.size ≤ w'.heap.size
  tape : w'.tape = w.tape
  os : w'.os = w.os
  output : w'.output = w.output
  own : ∀ (b : Nat) (o : AObj) (p : Pl), h'[b]? = some o → o.own = true → ρ' b = some p → p.blk < w.heap.size → ∃ b0 o0 p0, h[b0]? = some o0 ∧ o0.own = true ∧ ρ b0 = some p0 ∧ p0.blk = p.blk
  liv : ∀ (b : Nat) (o : AObj) (p : Pl), h'[b]? = some o → o.live = true → ρ' b = some p → p.blk < w.heap.size → ∃ b0 o0 p0, h[b0]? = some o0 ∧ o0.live = true ∧ ρ b0 = some p0 ∧ p0.blk = p.blk
  keep : ∀ c, c < w.heap.size → (∀ (b : Nat) (o : AObj) (p : Pl), h[b]? = some o → o.own = true → ρ b = some p → p.blk ≠ c) → w'.heap[c]? = w.heap[c]?

theorem Fr.refl (ρ : Rho) (h : AHeap) (w : World) : Fr ρ h w ρ h w :=
  ⟨.refl ρ, Nat.le_refl _, rfl, rfl, rfl, fun b o p hb ho hp _ => ⟨b, o, p, hb, ho, hp, rfl⟩, fun b o p hb ho hp _ => ⟨b, o, p, hb, ho, hp, rfl⟩, fun _ _ _ => rfl⟩
theorem Fr.trans {ρ1 ρ2 ρ3 : Rho} {h1 h2 h3 : AHeap} {w1 w2 w3 : World} (a : Fr ρ1 h1 w1 ρ2 h2 w2) (b : Fr ρ2 h2 w2 ρ3 h3 w3) : Fr ρ1 h1 w1 ρ3 h3 w3 :=
  ⟨a.ext.trans b.ext, Nat.le_trans a.size b.size, b.tape.trans a.tape, b.os.trans a.os, b.output.trans a.output,
   fun i o p hi ho hp hl => by
     obtain ⟨b0, o0, p0, x1, x2, x3, x4⟩ := b.own i o p hi ho hp (Nat.lt_of_lt_of_le hl a.size)
     obtain ⟨b1, o1, p1, y1, y2, y3, y4⟩ := a.own b0 o0 p0 x1 x2 x3 (by omega)
     exact ⟨b1, o1, p1, y1, y2, y3, y4.trans x4⟩,
   fun i o p hi ho hp hl => by
     obtain ⟨b0, o0, p0, x1, x2, x3, x4⟩ := b.liv i o p hi ho hp (Nat.lt_of_lt_of_le hl a.size)
     obtain ⟨b1, o1, p1, y1, y2, y3, y4⟩ := a.liv b0 o0 p0 x1 x2 x3 (by omega)
     exact ⟨b1, o1, p1, y1, y2, y3, y4.trans x4⟩,
   fun c hc hn => by
     refine (b.keep c (Nat.lt_of_lt_of_le hc a.size) ?_).trans (a.keep c hc hn)
     intro i o p hi ho hp e
     obtain ⟨b0, o0, p0, x1, x2, x3, x4⟩ := a.own i o p hi ho hp (by omega)
     exact hn b0 o0 p0 x1 x2 x3 (by omega)⟩
theorem Fr.drew (ρ : Rho) (h : AHeap) (w : World) : Fr ρ h w ρ h w.drew :=
  ⟨.refl ρ, Nat.le_refl _, rfl, rfl, rfl, fun b o p hb ho hp _ => ⟨b, o, p, hb, ho, hp, rfl⟩, fun b o p hb ho hp _ => ⟨b, o, p, hb, ho, hp, rfl⟩, fun _ _ _ => rfl⟩

theorem ObjRel.mono {G : Nat} {ρ ρ' : Rho} {w w' : World} {p : Pl} {o : AObj} (hρ : RhoLe ρ ρ') (hw : o.live = true → w'.heap[p.blk]? = w.heap[p.blk]?) (h : ObjRel G ρ w p o) : ObjRel G ρ' w' p o := by
  cases o with
  | dead => trivial
  | row cs own =>
    obtain ⟨c, t, fz, h1, h2, h3, h4, h5⟩ := h
    exact ⟨c, t, fz, (hw rfl).trans h1, h2, fun i v hv => by obtain ⟨v', a, b⟩ := h3 i v hv; exact ⟨v', a, b.mono hρ⟩, h4, h5⟩
  | siter s pos => exact ⟨(hw rfl).trans h.1, h.2⟩
  | amap es =>
    obtain ⟨es', clock, h1, h2, h3⟩ := h
    exact ⟨es', clock, (hw rfl).trans h1, h2.mono hρ, h3⟩
  | loop st pd ts ps as bd =>
    obtain ⟨L, h1, h2⟩ := h
    exact ⟨L, (hw rfl).trans h1, { h2 with tmps := h2.tmps.mono hρ }⟩

theorem HRel.drew {G : Nat} {ρ : Rho} {h : AHeap} {w : World} (H : HRel G ρ h w) : HRel G ρ h w.drew :=
  ⟨H.dom, fun b o p hb hp => (H.obj b o p hb hp).mono (.refl ρ) (fun _ => rfl), H.lt, H.bd, H.sep, H.glob, H.gown, H.gsz⟩

end Go.AM
