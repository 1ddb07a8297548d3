/-
  THE ABSTRACT EXECUTOR, SYMBOLICALLY: rules for append, slices' literals, ranges over strings, maps.
-/
import Derived.Test.YtpbmpdocgplhpaaGreatDoorVc6
set_option linter.unusedSimpArgs false
set_option linter.unusedVariables false
namespace Go.AM
variable {P : Program} {X : Ext} {ro : Option Nat} {M : Nat} {K : List Fm} {e : AExit} {f : Nat → Value} {h : AHeap} {Q : AExit → FS → Prop}

def vApp (K : List Fm) (f : Nat → Value) : Option (TypeId × TypeId × Value × Value) :=
  match hop K with
  | some (.call { callee := .builtin .append, args, argTypes }) => (match args.toList, argTypes.toList with
    | [s, x], [sT, xT] => some (sT, xT, fev f s, fev f x)
    | _, _ => none)
  | _ => none
theorem App (sT xT : TypeId) (s x v : Value) (h' : AHeap) {d : TypeDesc} (hl : vApp K f = some (sT, xT, s, x)) (hn : onOK M K = true) (hu : P.underlying xT = some d) (hd : ∀ k, d ≠ .int k) (hv : aappend P h sT s x = some (v, h'))
    (k : Fin P X ro M (onK M K) .normal ⟨fput f (onD M K) v, h'⟩ Q) : Fin P X ro M K .normal ⟨f, h⟩ Q := by
  unfold vApp at hl
  split at hl
  · rename_i args argTypes ho
    split at hl
    · rename_i s' x' sT' xT' ha ht
      simp only [Option.some.injEq, Prod.mk.injEq] at hl
      obtain ⟨rfl, rfl, rfl, rfl⟩ := hl
      refine Fin_head v h' (head_of ho ?_) hn k
      simp only [aop, apure, aread, aeff, ha, ht, hu]
      cases d with
      | int q => exact absurd rfl (hd q)
      | _ => exact hv
    · simp at hl
  · simp at hl
def vBld (K : List Fm) (f : Nat → Value) : Option (TypeId × Nat × List (Nat × Value)) :=
  match hop K with
  | some (.buildSlice t n ps) => some (t, n, ps.toList.map fun p => (p.1, fev f p.2))
  | _ => none
theorem Bld (t : TypeId) (n : Nat) (ps : List (Nat × Value)) (v : Value) (h' : AHeap) (hl : vBld K f = some (t, n, ps)) (hn : onOK M K = true) (hv : abuildSlice P h t n ps = some (v, h'))
    (k : Fin P X ro M (onK M K) .normal ⟨fput f (onD M K) v, h'⟩ Q) : Fin P X ro M K .normal ⟨f, h⟩ Q := by
  unfold vBld at hl
  split at hl
  · rename_i t' n' ps' ho
    simp only [Option.some.injEq, Prod.mk.injEq] at hl
    obtain ⟨rfl, rfl, rfl⟩ := hl
    exact Fin_head v h' (head_of ho (by simp only [aop, apure, aread, aeff, hv])) hn k
  · simp at hl
def vRng (K : List Fm) (f : Nat → Value) : Option (TypeId × Value) := match hop K with | some (.range t x) => some (t, fev f x) | _ => none
theorem Rng (t : TypeId) (s : ByteArray) (hl : vRng K f = some (t, .string s)) (hn : onOK M K = true) (hu : P.underlying t = some .string)
    (k : Fin P X ro M (onK M K) .normal ⟨fput f (onD M K) (.pointer (some ⟨h.length, 0, none⟩)), h ++ [.siter s 0]⟩ Q) : Fin P X ro M K .normal ⟨f, h⟩ Q := by
  unfold vRng at hl
  split at hl
  · rename_i t' x' ho
    simp only [Option.some.injEq, Prod.mk.injEq] at hl
    obtain ⟨rfl, hx⟩ := hl
    exact Fin_head _ _ (head_of ho (by simp only [aop, apure, aread, aeff, hu, hx])) hn k
  · simp at hl
def vNxt (K : List Fm) (f : Nat → Value) : Option Value := match hop K with | some (.next it true) => some (fev f it) | _ => none
theorem Nxt (r : Nat) (s : ByteArray) (pos : Nat) (hl : vNxt K f = some (.pointer (some ⟨r, 0, none⟩))) (hn : onOK M K = true) (hr : h[r]? = some (.siter s pos))
    (k1 : pos < s.size → Fin P X ro M (onK M K) .normal ⟨fput f (onD M K) (.tuple #[.bool true, goInt pos, .int .i32 (Utf8.decode s pos).1]), h.set r (.siter s (pos + (Utf8.decode s pos).2))⟩ Q)
    (k2 : ¬pos < s.size → Fin P X ro M (onK M K) .normal ⟨fput f (onD M K) (.tuple #[.bool false]), h⟩ Q) : Fin P X ro M K .normal ⟨f, h⟩ Q := by
  unfold vNxt at hl
  split at hl
  · rename_i it ho
    simp only [Option.some.injEq] at hl
    by_cases hp : pos < s.size
    · exact Fin_head _ _ (head_of ho (by simp only [aop, apure, aread, aeff, hl, anext, hr, hp, if_true])) hn (k1 hp)
    · exact Fin_head _ _ (head_of ho (by simp only [aop, apure, aread, aeff, hl, anext, hr, hp, if_false])) hn (k2 hp)
  · simp at hl
def vMap (K : List Fm) : Option TypeId := match hop K with | some (.makeMap t none) => some t | _ => none
theorem MMap (t : TypeId) (hl : vMap K = some t) (hn : onOK M K = true)
    (k : Fin P X ro M (onK M K) .normal ⟨fput f (onD M K) (.map (some h.length)), h ++ [.amap []]⟩ Q) : Fin P X ro M K .normal ⟨f, h⟩ Q := by
  unfold vMap at hl
  split at hl
  · rename_i t' ho
    exact Fin_head _ _ (head_of ho (by simp only [aop, apure, aread, aeff])) hn k
  · simp at hl
def vUpd (K : List Fm) (f : Nat → Value) : Option (TypeId × Value × Value × Value) := match hop K with | some (.mapUpdate t m k x) => some (t, fev f m, fev f k, fev f x) | _ => none
theorem MUpd (t : TypeId) (m kk x : Value) (h' : AHeap) (hl : vUpd K f = some (t, m, kk, x)) (hn : onOK M K = true) (hv : amapUpd P h t m kk x = some h')
    (k : Fin P X ro M (onK M K) .normal ⟨fput f (onD M K) undef, h'⟩ Q) : Fin P X ro M K .normal ⟨f, h⟩ Q := by
  unfold vUpd at hl
  split at hl
  · rename_i t' m' k' x' ho
    simp only [Option.some.injEq, Prod.mk.injEq] at hl
    obtain ⟨rfl, rfl, rfl, rfl⟩ := hl
    exact Fin_head _ _ (head_of ho (by simp only [aop, apure, aread, aeff, hv])) hn k
  · simp at hl
def vLook (K : List Fm) (f : Nat → Value) : Option (TypeId × Value × Value × Bool) := match hop K with | some (.lookup t m k ok) => some (t, fev f m, fev f k, ok) | _ => none
theorem MLook (t : TypeId) (m kk v : Value) (ok : Bool) (hl : vLook K f = some (t, m, kk, ok)) (hn : onOK M K = true) (hv : alookup P h t m kk ok = some v)
    (k : Fin P X ro M (onK M K) .normal ⟨fput f (onD M K) v, h⟩ Q) : Fin P X ro M K .normal ⟨f, h⟩ Q := by
  unfold vLook at hl
  split at hl
  · rename_i t' m' k' ok' ho
    simp only [Option.some.injEq, Prod.mk.injEq] at hl
    obtain ⟨rfl, rfl, rfl, rfl⟩ := hl
    exact Fin_head _ _ (head_of ho (by simp only [aop, apure, aread, hv])) hn k
  · simp at hl
end Go.AM
