/-
  THE ABSTRACT EXECUTOR, SYMBOLICALLY: ranges over functions, and the rounds that they are called with.
-/
import Derived.Test.YtpbmpdocgplhpaaGreatDoorVc7
set_option linter.unusedSimpArgs false
set_option linter.unusedVariables false
namespace Go.AM
variable {P : Program} {X : Ext} {ro : Option Nat} {M : Nat} {K : List Fm} {e : AExit} {f : Nat → Value} {h : AHeap} {Q : AExit → FS → Prop}

/-- One frame alone. -/
theorem Fin_alone {c : Code} {x : FS} {s : St} (k : Fin P X ro M [.code c] .normal x Q) (r : Rep M s x) :
    ∃ N e' s' x', Rep M s' x' ∧ Q e' x' ∧ ∀ n, N ≤ n → aex P (acall P X n) n ro c s = some (e', s') := by
  obtain ⟨N, e', s', x', a, b, d⟩ := k s r
  refine ⟨N, e', s', x', a, b, fun n hn => ?_⟩
  have := d n n hn hn
  simp only [kex, frOne] at this
  cases hx : aex P (acall P X n) n ro c s with
  | none => rw [hx] at this; simp at this
  | some q =>
    obtain ⟨q1, q2⟩ := q
    rw [hx] at this; simpa using this

/-- A round. -/
theorem Ca_yield {l : Nat} {ts : List Value} {ps : List Tmp} {as bd : Code} {pd : Option Code} {args : List Value} {C : Value → AHeap → Prop} (hl : h[l]? = some (.loop .ready pd ts ps as bd)) (ha : args.length = ps.length) (hM : ts.length = M)
    (k : Fin P X (some l) M [.code as] .normal ⟨fun j => ((ps.zip args).foldl (fun t p => t.set p.1 p.2) ts).getD j undef, h⟩ (fun e y => e = .normal ∧ ∃ pd' ts' ps' as' bd', y.h[l]? = some (.loop .ready pd' ts' ps' as' bd') ∧
      Fin P X (some l) M [.code bd] .normal ⟨y.f, y.h.set l (.loop .busy pd' ts' ps' as' bd')⟩ (fun e2 z => ∃ st pd2 ts2 ps2 as2 bd2, z.h[l]? = some (.loop st pd2 ts2 ps2 as2 bd2) ∧
        C (.bool (jumpOf e2).isNone) (z.h.set l (.loop (if (jumpOf e2).isNone then .ready else .done) (jumpOf e2) ts2 ps2 as2 bd2))))) : Ca P X (.yield l) args h C := by
  have hlen : ∀ (q : List (Tmp × Value)) (t : List Value), (q.foldl (fun t p => t.set p.1 p.2) t).length = t.length := by
    intro q
    induction q with
    | nil => intro t; rfl
    | cons p q ih => intro t; simp only [List.foldl_cons]; rw [ih]; simp
  have rp : Rep M ⟨(ps.zip args).foldl (fun t p => t.set p.1 p.2) ts, h⟩ ⟨fun j => ((ps.zip args).foldl (fun t p => t.set p.1 p.2) ts).getD j undef, h⟩ := ⟨by simp only; rw [hlen, hM], fun j => rfl, rfl⟩
  obtain ⟨N, e', s', x', a, ⟨rfl, pd', ts', ps', as', bd', h1, k2⟩, d⟩ := Fin_alone k rp
  have rp2 : Rep M ⟨s'.t, s'.h.set l (.loop .busy pd' ts' ps' as' bd')⟩ ⟨x'.f, x'.h.set l (.loop .busy pd' ts' ps' as' bd')⟩ := ⟨a.len, a.slot, by simp only [a.heap]⟩
  obtain ⟨N2, e2, s2, x2, a2, ⟨st, pd2, ts2, ps2, as2, bd2, h2, hC⟩, d2⟩ := Fin_alone k2 rp2
  refine ⟨max N N2 + 1, _, _, hC, fun n hn => ?_⟩
  obtain ⟨n, rfl⟩ : ∃ q, n = q + 1 := ⟨n - 1, by omega⟩
  have e1 := d n (by omega)
  have e3 := d2 n (by omega)
  rw [← a.heap] at h1
  rw [← a2.heap] at h2
  rw [a2.heap] at h2
  simp only [acall, hl, ha, if_true, e1, h1, e3, a2.heap, h2]

def vRF (K : List Fm) (f : Nat → Value) : Option (FuncId × List Value × List Value × List Tmp × Code × Code) :=
  match K with
  | .code (.rangeFunc fo ps as bd) :: _ => (match fev f fo with
    | .func (.func g) first captured => some (g, first.toList, captured.toList, ps.toList, as, bd)
    | _ => none)
  | _ => none
/-- A range over a function. -/
theorem RangeF (g : FuncId) (first captured : List Value) (ps : List Tmp) (as bd : Code) {C : Value → AHeap → Prop} (hl : vRF K f = some (g, first, captured, ps, as, bd)) (hin : inRound h ro = true)
    (c : Ca P X (.fn g) (first ++ [.func (.yield h.length) #[] #[]] ++ captured) (h ++ [.loop .ready none ((List.range M).map f) ps as bd]) C)
    (k : ∀ v h', C v h' → ∃ st pend ts ps' as' bd' e, h'[h.length]? = some (.loop st pend ts ps' as' bd') ∧ st ≠ .busy ∧ exitOf pend = some e ∧ Fin P X ro M K.tail e ⟨f, h'.set h.length (.loop .exhausted pend ts ps' as' bd')⟩ Q) : Fin P X ro M K .normal ⟨f, h⟩ Q := by
  unfold vRF at hl
  split at hl
  · rename_i fo ps0 as0 bd0 K0
    split at hl
    · rename_i g' first' captured' hfo
      simp only [Option.some.injEq, Prod.mk.injEq] at hl
      obtain ⟨rfl, rfl, rfl, rfl, rfl, rfl⟩ := hl
      obtain ⟨N, v, h', hC, hN⟩ := c
      obtain ⟨st, pend, ts, ps', as', bd', e, e1, e2, e3, k⟩ := k v h' hC
      intro s r
      have hs := r.eq
      subst hs
      have rp : Rep M ⟨(List.range M).map f, h'.set h.length (.loop .exhausted pend ts ps' as' bd')⟩ ⟨f, h'.set h.length (.loop .exhausted pend ts ps' as' bd')⟩ := ⟨r.len, r.slot, rfl⟩
      obtain ⟨N2, e'', s'', x'', a, b, d⟩ := k _ rp
      refine ⟨max N N2, e'', s'', x'', a, b, fun n m hn hm => ?_⟩
      have h3 := d n m (by omega) (by omega)
      have h4 := hN n (by omega)
      have h5 : aeval ((List.range M).map f) fo = .func (.func g') first' captured' := by
        have := r.ev fo
        simp only [stOf] at this
        rw [this]; exact hfo
      simp only [stOf, kex, frOne, aex, h5, hin, if_true]
      simp only [h4, e1, e2, if_false, e3]
      exact h3
    · simp at hl
  · simp at hl
end Go.AM
