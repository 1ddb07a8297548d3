/-
  THE ABSTRACT EXECUTOR, SYMBOLICALLY: rules for operations that look at the heap or may fail; the heap is a name, facts about it are hypotheses.
-/
import Derived.Test.YtknpjlcgjlnfbaaGreatDoorVc4
set_option linter.unusedSimpArgs false
set_option linter.unusedVariables false
namespace Go.AM
variable {P : Program} {X : Ext} {ro : Option Nat} {M : Nat} {K : List Fm} {e : AExit} {f : Nat → Value} {h : AHeap} {Q : AExit → FS → Prop}

theorem frun_h : ∀ (n : Nat) (K : List Fm) (x : FS), (frun P M n K x).2.h = x.h := by
  intro n
  induction n with
  | zero => intro K x; rfl
  | succ n ih =>
    intro K x
    simp only [frun]
    split
    · rename_i K' x' hs
      rw [ih]
      unfold fstep at hs
      split at hs <;> (try (simp only [Option.some.injEq, Prod.mk.injEq] at hs; obtain ⟨_, rfl⟩ := hs; rfl))
      · rename_i ops draw K0
        cases draw <;> simp at hs
        obtain ⟨_, rfl⟩ := hs; rfl
      · split at hs
        · simp only [Option.some.injEq, Prod.mk.injEq] at hs; obtain ⟨_, rfl⟩ := hs; rfl
        · simp at hs
      · rename_i all o r K0
        split at hs
        · simp at hs
        · cases hc : (totalOp x.f o.op && dstIn M o.dst) with
          | false => rw [hc] at hs; simp at hs
          | true =>
            rw [hc] at hs
            simp only [cond_true] at hs
            split at hs
            · simp only [Option.some.injEq, Prod.mk.injEq] at hs; obtain ⟨_, rfl⟩ := hs; rfl
            · simp at hs
      · simp at hs
    · rfl

/-- Run total operations; the heap keeps its name. -/
theorem Run (n : Nat) (k : Fin P X ro M (frun P M n K ⟨f, h⟩).1 .normal ⟨(frun P M n K ⟨f, h⟩).2.f, h⟩ Q) : Fin P X ro M K .normal ⟨f, h⟩ Q := by
  refine Fin_run n ?_
  have e : (frun P M n K ⟨f, h⟩).2 = ⟨(frun P M n K ⟨f, h⟩).2.f, h⟩ := by
    have := frun_h (P := P) (M := M) n K ⟨f, h⟩
    generalize (frun P M n K ⟨f, h⟩).2 = y at this
    obtain ⟨yf, yh⟩ := y
    simp only at this
    subst this; rfl
  rw [e]; exact k

/-- The head operation, if it is not guarded. -/
def hop (K : List Fm) : Option Op :=
  match K with
  | .ops _ (o :: _) :: _ => (match o.guard with
    | some _ => none
    | none => some o.op)
  | _ => none
theorem head_of {op : Op} {q : Option (Value × AHeap)} (ho : hop K = some op) (hv : aop P (fun _ _ _ => none) (fev f) h op = q) : headV P K ⟨f, h⟩ = q := by
  unfold hop at ho
  split at ho
  · split at ho
    · simp at ho
    · rename_i hg
      simp only [Option.some.injEq] at ho
      simp only [headV, hg, ho]; exact hv
  · simp at ho

/-- A load: its type and its address. -/
def vLoad (K : List Fm) (f : Nat → Value) : Option (TypeId × Value) := match hop K with | some (.load t a) => some (t, fev f a) | _ => none
theorem Load (t : TypeId) (a v : Value) (hl : vLoad K f = some (t, a)) (hn : onOK M K = true) (hv : aload P h t a = some v)
    (k : Fin P X ro M (onK M K) .normal ⟨fput f (onD M K) v, h⟩ Q) : Fin P X ro M K .normal ⟨f, h⟩ Q := by
  unfold vLoad at hl
  split at hl
  · rename_i t' a' ho
    simp only [Option.some.injEq, Prod.mk.injEq] at hl
    obtain ⟨rfl, rfl⟩ := hl
    exact Fin_head v h (head_of ho (by simp only [aop, apure, aread, hv])) hn k
  · simp at hl
/-- A store: its type, its address, the value. -/
def vStore (K : List Fm) (f : Nat → Value) : Option (TypeId × Value × Value) := match hop K with | some (.store t a x) => some (t, fev f a, fev f x) | _ => none
theorem Store (t : TypeId) (a v : Value) (h' : AHeap) (hl : vStore K f = some (t, a, v)) (hn : onOK M K = true) (hv : astore P h t a v = some h')
    (k : Fin P X ro M (onK M K) .normal ⟨fput f (onD M K) undef, h'⟩ Q) : Fin P X ro M K .normal ⟨f, h⟩ Q := by
  unfold vStore at hl
  split at hl
  · rename_i t' a' x' ho
    simp only [Option.some.injEq, Prod.mk.injEq] at hl
    obtain ⟨rfl, rfl, rfl⟩ := hl
    exact Fin_head undef h' (head_of ho (by simp only [aop, apure, aread, aeff, hv])) hn k
  · simp at hl
/-- A place of a slice. -/
def vIdxA (K : List Fm) (f : Nat → Value) : Option (TypeId × Value × Value) := match hop K with | some (.indexAddr t x i) => some (t, fev f x, fev f i) | _ => none
theorem IdxA (t : TypeId) (b o sz len kk : Nat) (kd : IntKind) (i : Int) {e : TypeId} {it ie : TI} (hl : vIdxA K f = some (t, .slice (some ⟨b, o, some sz⟩) len kk, .int kd i)) (hn : onOK M K = true)
    (ht : ti P t = some it) (hd : it.d = .slice e) (he : ti P e = some ie) (hs : ie.size = sz) (h0 : 0 ≤ i) (h1 : i < len)
    (k : Fin P X ro M (onK M K) .normal ⟨fput f (onD M K) (.pointer (some ⟨b, o + i.toNat * sz, none⟩)), h⟩ Q) : Fin P X ro M K .normal ⟨f, h⟩ Q := by
  unfold vIdxA at hl
  split at hl
  · rename_i t' x' i' ho
    simp only [Option.some.injEq, Prod.mk.injEq] at hl
    obtain ⟨rfl, hx, hi⟩ := hl
    obtain ⟨d, siz, by', ze⟩ := it
    simp only at hd; subst hd
    have : aindexAddr P t' (fev f x') (fev f i') = some (.pointer (some ⟨b, o + i.toNat * sz, none⟩)) := by
      rw [hx, hi]
      simp only [aindexAddr, ht, asIdx, he, hs]
      simp [h0, h1]
    exact Fin_head _ h (head_of ho (by simp only [aop, apure, this])) hn k
  · simp at hl
/-- A byte of a string. -/
def vIdx (K : List Fm) (f : Nat → Value) : Option (TypeId × Value × Value) := match hop K with | some (.index t x i) => some (t, fev f x, fev f i) | _ => none
theorem IdxS (t : TypeId) (s : ByteArray) (kd : IntKind) (i : Int) (c : UInt8) {it : TI} (hl : vIdx K f = some (t, .string s, .int kd i)) (hn : onOK M K = true)
    (ht : ti P t = some it) (hd : it.d = .string) (h0 : 0 ≤ i) (h1 : s[i.toNat]? = some c)
    (k : Fin P X ro M (onK M K) .normal ⟨fput f (onD M K) (.int .u8 c.toNat), h⟩ Q) : Fin P X ro M K .normal ⟨f, h⟩ Q := by
  unfold vIdx at hl
  split at hl
  · rename_i t' x' i' ho
    simp only [Option.some.injEq, Prod.mk.injEq] at hl
    obtain ⟨rfl, hx, hi⟩ := hl
    obtain ⟨d, siz, by', ze⟩ := it
    simp only at hd; subst hd
    have : aindex P t' (fev f x') (fev f i') = some (.int .u8 c.toNat) := by
      rw [hx, hi]
      simp only [aindex, ht, asIdx, h1]
      simp [h0]
    exact Fin_head _ h (head_of ho (by simp only [aop, apure, this])) hn k
  · simp at hl
/-- A part of a string or of a slice. -/
def vSlice (K : List Fm) (f : Nat → Value) : Option (TypeId × Value × Option Value × Option Value × Option Value) := match hop K with | some (.slice t x lo hi mx) => some (t, fev f x, lo.map (fev f), hi.map (fev f), mx.map (fev f)) | _ => none
theorem Slic (t : TypeId) (x v : Value) (lo hi mx : Option Value) (hl : vSlice K f = some (t, x, lo, hi, mx)) (hn : onOK M K = true) (hv : aslice P t x lo hi mx = some v)
    (k : Fin P X ro M (onK M K) .normal ⟨fput f (onD M K) v, h⟩ Q) : Fin P X ro M K .normal ⟨f, h⟩ Q := by
  unfold vSlice at hl
  split at hl
  · rename_i t' x' lo' hi' mx' ho
    simp only [Option.some.injEq, Prod.mk.injEq] at hl
    obtain ⟨rfl, rfl, rfl, rfl, rfl⟩ := hl
    exact Fin_head v h (head_of ho (by simp only [aop, apure, hv])) hn k
  · simp at hl
/-- An operator. -/
def vBin (K : List Fm) (f : Nat → Value) : Option (BinOp × TypeId × Value × Value) := match hop K with | some (.binOp o t x y _) => some (o, t, fev f x, fev f y) | _ => none
theorem Bin (o : BinOp) (t : TypeId) (x y v : Value) (hl : vBin K f = some (o, t, x, y)) (hn : onOK M K = true) (hv : abin P o t x y = some v)
    (k : Fin P X ro M (onK M K) .normal ⟨fput f (onD M K) v, h⟩ Q) : Fin P X ro M K .normal ⟨f, h⟩ Q := by
  unfold vBin at hl
  split at hl
  · rename_i o' t' x' y' _ ho
    simp only [Option.some.injEq, Prod.mk.injEq] at hl
    obtain ⟨rfl, rfl, rfl, rfl⟩ := hl
    exact Fin_head v h (head_of ho (by simp only [aop, apure, hv])) hn k
  · simp at hl
end Go.AM
