/-
  THE ABSTRACT EXECUTOR: operations that look at nothing but their operands are what the model computes (2).
-/
import Derived.Test.YtknpjlcgjlnfbaaGreatDoorAm3
set_option linter.unusedSimpArgs false
set_option linter.unusedVariables false
namespace Go.AM
variable {P : Program} {ρ : Rho}

theorem aun_sound {o : UnOp} {x x' v : Value} (hx : VRel ρ x x') (h : aun o x = some v) : Still P (Op.unary o x') v ∧ VRel ρ v v := by
  unfold aun at h
  split at h
  · cases hx; simp only [Option.some.injEq] at h; subst h; exact ⟨fun w => by simp [Op.unary, Op.intArith], .int _ _⟩
  · rename_i k n
    cases hx
    simp only [aint, Option.some.injEq] at h; subst h
    exact ⟨fun w => by simp [Op.unary, Op.intBits], .int _ _⟩
  · cases hx; simp only [Option.some.injEq] at h; subst h; exact ⟨fun w => by simp [Op.unary], .bool _⟩
  · simp at h

theorem aconv_sound {s d : TypeId} {x x' v : Value} (hx : VRel ρ x x') (h : aconv P s d x = some v) : Still P (Go.convert s d x') v ∧ VRel ρ v v := by
  unfold aconv at h
  split at h <;> (try (simp at h; done)) <;> rename_i h1 h2 <;> cases hx <;> simp only [Option.some.injEq] at h <;> subst h <;>
    (refine ⟨fun w => ?_, by constructor⟩) <;> rename_i d1 _ <;>
    (simp only [Go.convert, Sem.run_bind, run_und h1, run_und h2, Result.andThen_ok]; cases d1 <;> first | rfl | simp [Conv.intToInt, Conv.intToString])

theorem LRel.extract {ρ : Rho} {x x' : Array Value} (h : LRel ρ x.toList x'.toList) (a n : Nat) : LRel ρ ((x.toList.drop a).take n) (x'.extract a (a + n)).toList := by
  have := (h.drop a).take n
  rw [Array.toList_extract]
  simpa [List.extract, List.take_drop] using this

theorem partA_sound {t : TypeId} {cs cs' : Array Value} {off : Nat} {v : Value} (hc : LRel ρ cs.toList cs'.toList) (h : partA P t cs.toList off = some v) :
    ∃ v', Still P (part t cs' off) v' ∧ VRel ρ v v' := by
  unfold partA at h
  split at h
  · rename_i i hi
    split at h
    · rename_i ha
      simp only [Option.some.injEq] at h; subst h
      refine ⟨.agg (cs'.extract off (off + i.size)), fun w => by simp [part, run_isAgg hi, ha, run_size hi], ?_⟩
      have := (hc.extract off i.size).agg
      simpa only [Array.toArray_toList] using this
    · rename_i ha
      obtain ⟨v', h1, h2⟩ := hc.get? h
      have h1' : cs'[off]? = some v' := by simpa using h1
      exact ⟨v', fun w => by simp [part, run_isAgg hi, ha, h1'], h2⟩
  · simp at h

/-! ### build -/
theorem splice_get {cs c : List Value} {o : Nat} (h : o + c.length ≤ cs.length) (i : Nat) : (splice cs o c)[i]? = if i < o then cs[i]? else if i < o + c.length then c[i - o]? else cs[i]? := by
  unfold splice
  simp only [List.append_assoc, List.getElem?_append, List.length_take]
  have hm : min o cs.length = o := by omega
  rw [hm]
  split
  · rename_i hi; rw [List.getElem?_take, if_pos hi]
  · rename_i hi
    by_cases h2 : i - o < c.length
    · rw [if_pos h2, if_pos (by omega)]
    · rw [if_neg h2, if_neg (by omega), List.getElem?_drop]
      congr 1
      omega
theorem splice_length {cs c : List Value} {o : Nat} (h : o + c.length ≤ cs.length) : (splice cs o c).length = cs.length := by
  unfold splice; simp; omega

theorem setfold_eq (c : List Value) : ∀ (o : Nat) (cs : List Value), o + c.length ≤ cs.length →
    ((c.toArray.zipIdx.foldl (fun cs (p : Value × Nat) => cs.setIfInBounds (o + p.2) p.1) cs.toArray)).toList = splice cs o c := by
  intro o cs h
  have key : ∀ (c : List Value) (k : Nat) (cs : List Value), o + k + c.length ≤ cs.length →
      ((c.zipIdx k).foldl (fun (cs : Array Value) (p : Value × Nat) => cs.setIfInBounds (o + p.2) p.1) cs.toArray) = (splice cs (o + k) c).toArray := by
    intro c
    induction c with
    | nil => intro k cs h; simp [splice]
    | cons v c ih =>
      intro k cs h
      simp only [List.length_cons] at h
      simp only [List.zipIdx_cons, List.foldl_cons, List.setIfInBounds_toArray]
      rw [ih (k + 1) (cs.set (o + k) v) (by simp; omega)]
      congr 1
      apply List.ext_getElem?
      intro i
      rw [splice_get (by simp; omega), splice_get (by simp; omega)]
      simp only [List.length_cons]
      by_cases h1 : i < o + k
      · rw [if_pos (by omega), if_pos h1, List.getElem?_set_ne (by omega)]
      · by_cases h2 : i = o + k
        · subst h2
          rw [if_pos (by omega), if_neg (by omega), if_pos (by omega), List.getElem?_set_self (by omega)]
          simp
        · rw [if_neg (by omega), if_neg h1]
          by_cases h3 : i < o + (k + 1) + c.length
          · rw [if_pos h3, if_pos (by omega)]
            have : i - (o + k) = (i - (o + (k + 1))) + 1 := by omega
            rw [this, List.getElem?_cons_succ]
          · rw [if_neg h3, if_neg (by omega), List.getElem?_set_ne (by omega)]
  have := key c 0 cs (by simpa using h)
  rw [← Array.foldl_toList]
  simp only [Array.toList_zipIdx]
  rw [this]
  simp

theorem afill_sound {place : Nat → Option (Nat × Nat)} : ∀ {parts parts' : List (Nat × Value)} {cs cs' r : List Value},
    parts.map (·.1) = parts'.map (·.1) → LRel ρ (parts.map (·.2)) (parts'.map (·.2)) → LRel ρ cs cs' → afill place cs parts = some r →
    ∃ r', Instr.fill place cs'.toArray parts' = some r'.toArray ∧ LRel ρ r r' := by
  intro parts
  induction parts with
  | nil =>
    intro parts' cs cs' r hm hv hc h
    cases parts' with
    | cons _ _ => simp at hm
    | nil => simp only [afill, Option.some.injEq] at h; subst h; exact ⟨cs', rfl, hc⟩
  | cons p parts ih =>
    intro parts' cs cs' r hm hv hc h
    cases parts' with
    | nil => simp at hm
    | cons p' parts' =>
      obtain ⟨i, v⟩ := p
      obtain ⟨i', v'⟩ := p'
      simp only [List.map_cons, List.cons.injEq] at hm hv
      obtain ⟨rfl, hm⟩ := hm
      cases hv with
      | cons hv hvs =>
      simp only [afill] at h
      split at h
      · simp at h
      · rename_i off size hp
        split at h
        · simp at h
        · rename_i hcond
          simp only [ne_eq, gt_iff_lt, Bool.or_eq_true, decide_eq_true_eq, Bool.not_eq_true', not_or, Decidable.not_not, Nat.not_lt, Bool.not_eq_false] at hcond
          obtain ⟨⟨hs, hle⟩, _⟩ := hcond
          obtain ⟨r', h1, h2⟩ := ih hm hvs (hc.splice hv.cells off) h
          refine ⟨r', ?_, h2⟩
          simp only [Instr.fill, hp]
          have hsz := hv.cellsSize
          have hl := hc.length
          rw [if_neg (by simp only [List.size_toArray]; simp; omega)]
          rw [← h1]
          congr 1
          apply Array.toList_inj.1
          have := setfold_eq v'.cells.toList off cs' (by simp; omega)
          simpa using this
      

theorem map_places {fs : Array Field} : (∀ f ∈ fs.toList, (P.info? f.type).isSome) → ∀ w, (fs.mapM fun f => (do pure (f.offset, ← Go.sizeOf f.type) : Sem (Nat × Nat))).run P w = .ok (fs.map fun f => (f.offset, P.cellsOf f.type)) w := by
  intro h w
  rw [Array.mapM_eq_mapM_toList]
  have key : ∀ (l : List Field), (∀ f ∈ l, (P.info? f.type).isSome) → (l.mapM fun f => (do pure (f.offset, ← Go.sizeOf f.type) : Sem (Nat × Nat))).run P w = .ok (l.map fun f => (f.offset, P.cellsOf f.type)) w := by
    intro l
    induction l with
    | nil => intro _; rfl
    | cons f l ih =>
      intro hl
      have hf := hl f (by simp)
      obtain ⟨i, hi⟩ := Option.isSome_iff_exists.1 hf
      have h1 : (Go.sizeOf f.type).run P w = .ok i.size w := by simp [Go.sizeOf, typeInfo, hi]
      simp only [List.mapM_cons, Sem.run_bind, h1, Result.andThen_ok, Sem.run_pure, ih (fun f hf => hl f (by simp [hf]))]
      simp [Program.cellsOf, hi]
  have := key fs.toList h
  simp only [Sem.run_map]
  rw [this]
  simp only [Result.andThen_ok]
  congr 1
  apply Array.toList_inj.1
  simp

theorem abuild_sound {t : TypeId} {parts parts' : List (Nat × Value)} {v : Value} 
    (hm : parts.map (·.1) = parts'.map (·.1)) (hv : LRel ρ (parts.map (·.2)) (parts'.map (·.2))) (h : abuild P t parts = some v) :
    ∃ v', Still P (Instr.build t parts'.toArray) v' ∧ VRel ρ v v' := by
  unfold abuild at h
  split at h
  · rename_i fs sz by_ z ht
    split at h
    · rename_i cs hf
      split at h
      · rename_i hall
        simp only [Option.some.injEq] at h; subst h
        have hzz : VRel ρ z z := constOK_refl ρ (ti_zero ht)
        obtain ⟨r', h1, h2⟩ := afill_sound hm hv hzz.cells hf
        refine ⟨.agg r'.toArray, fun w => ?_, h2.agg⟩
        have hall' : ∀ f ∈ fs.toList, (P.info? f.type).isSome := by
          intro f hf'
          rw [Array.all_eq_true] at hall
          obtain ⟨i, hi, rfl⟩ := List.getElem_of_mem hf'
          simpa using hall i (by simpa using hi)
        simp only [Instr.build, Sem.run_bind, run_zero ht, run_tu ht, Result.andThen_ok]
        rw [map_places hall' w]
        have e : z.cells.toList.toArray = z.cells := by simp
        rw [e] at h1
        simp only [Result.andThen_ok]
        rw [h1]
        rfl
      · simp at h
    · simp at h
  · rename_i n e sz by_ z ht
    split at h
    · rename_i ie he
      split at h
      · rename_i cs hf
        simp only [Option.some.injEq] at h; subst h
        have hzz : VRel ρ z z := constOK_refl ρ (ti_zero ht)
        obtain ⟨r', h1, h2⟩ := afill_sound hm hv hzz.cells hf
        refine ⟨.agg r'.toArray, fun w => ?_, h2.agg⟩
        have e : z.cells.toList.toArray = z.cells := by simp
        rw [e] at h1
        simp [Instr.build, run_zero ht, run_tu ht, run_size he, h1]
      · simp at h
    · simp at h
  · simp at h
end Go.AM
