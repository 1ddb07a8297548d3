/-
  THE ABSTRACT EXECUTOR: operations that look at nothing but their operands are what the model computes (3).
-/
import Derived.Test.YtknpjlcgjlnfbaaGreatDoorAm4
set_option linter.unusedSimpArgs false
set_option linter.unusedVariables false
namespace Go.AM
variable {P : Program} {ρ : Rho}

theorem asIdx_run {v v' : Value} {i : Int} (h : asIdx v = some i) (hv : VRel ρ v v') : ∃ k, v' = .int k i := by
  cases hv <;> simp [asIdx] at h
  subst h
  exact ⟨_, rfl⟩

theorem aindexAddr_sound {t : TypeId} {x ix x' ix' v : Value} (hx : VRel ρ x x') (hi : VRel ρ ix ix') (h : aindexAddr P t x ix = some v) :
    ∃ v', Still P (Instr.indexAt t x' ix') v' ∧ VRel ρ v v' := by
  unfold aindexAddr at h
  split at h
  · rename_i e s1 s2 s3 b o sz len k i ht he
    obtain ⟨ki, rfl⟩ := asIdx_run he hi
    split at h
    · rename_i ie hie
      split at h
      · rename_i hc
        simp only [Bool.and_eq_true, decide_eq_true_eq] at hc
        obtain ⟨⟨hsz, h0⟩, h1⟩ := hc
        simp only [Option.some.injEq] at h; subst h
        cases hx with
        | slice0 => omega
        | slice hb hl hcap hk =>
          rename_i p cap
          refine ⟨_, fun w => ?_, .ptr hb⟩
          simp only [Instr.indexAt, asIntOf, Sem.run_bind, Sem.run_pure, Result.andThen_ok, run_tu ht]
          rw [if_pos ⟨h0, h1⟩]
          simp only [Sem.run_bind, run_size hie, Result.andThen_ok, Sem.run_pure]
          congr 4
          unfold Addr.add
          split
          · rename_i hz; simp only [Addr.mk.injEq, true_and, and_true]; rw [← hsz]; omega
          · simp only [Addr.mk.injEq, true_and, and_true]; rw [← hsz]; omega
      · simp at h
    · simp at h
  · rename_i n e s1 s2 s3 b o i ht he
    obtain ⟨ki, rfl⟩ := asIdx_run he hi
    split at h
    · rename_i ie hie
      split at h
      · rename_i hc
        simp only [Bool.and_eq_true, decide_eq_true_eq] at hc
        obtain ⟨h0, h1⟩ := hc
        simp only [Option.some.injEq] at h; subst h
        cases hx with
        | ptr hb =>
          rename_i p
          refine ⟨_, fun w => ?_, .ptr hb⟩
          simp only [Instr.indexAt, asIntOf, Sem.run_bind, Sem.run_pure, Result.andThen_ok, run_tu ht, Instr.sureAddr]
          rw [if_pos ⟨h0, h1⟩]
          simp only [Sem.run_bind, run_size hie, Result.andThen_ok, Sem.run_pure]
          congr 4
          unfold Addr.add
          split
          · rename_i hz; simp only [Addr.mk.injEq, true_and, and_true]; omega
          · simp only [Addr.mk.injEq, true_and, and_true]; omega
      · simp at h
    · simp at h
  · simp at h

theorem afieldAddr_sound {t : TypeId} {x x' v : Value} {f : Nat} (hx : VRel ρ x x') (h : afieldAddr P t x f = some v) :
    ∃ v', Still P (Instr.fieldAt t x' f) v' ∧ VRel ρ v v' := by
  unfold afieldAddr at h
  split at h
  · rename_i fs s1 s2 s3 b o ht
    split at h
    · rename_i fd hf
      split at h
      · rename_i i hi
        split at h
        · simp at h
        · rename_i hz
          simp only [Option.some.injEq] at h; subst h
          cases hx with
          | ptr hb =>
            refine ⟨_, fun w => ?_, .ptr hb⟩
            simp only [Instr.fieldAt, Sem.run_bind, run_tu ht, Result.andThen_ok, hf, Instr.sureAddr, Sem.run_pure, fieldPlace, run_size hi, if_neg hz, Sem.run_ite]
            congr 4
            unfold Addr.add
            split
            · simp only [Addr.mk.injEq, true_and, and_true]; omega
            · simp only [Addr.mk.injEq, true_and, and_true]; omega
      · simp at h
    · simp at h
  · simp at h

theorem afield_sound {t : TypeId} {x x' v : Value} {f : Nat} (hx : VRel ρ x x') (h : afield P t x f = some v) :
    ∃ v', Still P (Instr.field t x' f) v' ∧ VRel ρ v v' := by
  unfold afield at h
  split at h
  · rename_i fs s1 s2 s3 cs ht
    split at h
    · rename_i fd hf
      cases hx with
      | agg hs hc =>
        rename_i cs'
        obtain ⟨v', h1, h2⟩ := partA_sound (.toArray hs hc) h
        exact ⟨v', fun w => by simp [Instr.field, run_tu ht, hf, asAgg, h1 w], h2⟩
    · simp at h
  · simp at h

theorem aindex_sound {t : TypeId} {x ix x' ix' v : Value} (hx : VRel ρ x x') (hi : VRel ρ ix ix') (h : aindex P t x ix = some v) :
    ∃ v', Still P (Instr.index t x' ix') v' ∧ VRel ρ v v' := by
  unfold aindex at h
  split at h
  · rename_i n e s1 s2 s3 cs i ht he
    obtain ⟨ki, rfl⟩ := asIdx_run he hi
    split at h
    · rename_i ie hie
      split at h
      · rename_i hc
        simp only [Bool.and_eq_true, decide_eq_true_eq] at hc
        cases hx with
        | agg hs hcs =>
          obtain ⟨v', h1, h2⟩ := partA_sound (.toArray hs hcs) h
          refine ⟨v', fun w => ?_, h2⟩
          simp only [Instr.index, asIntOf, Sem.run_bind, Sem.run_pure, Result.andThen_ok, run_tu ht]
          rw [if_pos hc]
          simp [run_size hie, h1 w]
      · simp at h
    · simp at h
  · rename_i s1 s2 s3 s i ht he
    obtain ⟨ki, rfl⟩ := asIdx_run he hi
    split at h
    · rename_i h0
      split at h
      · rename_i bt hb
        simp only [Option.some.injEq] at h; subst h
        cases hx
        refine ⟨_, fun w => ?_, .int _ _⟩
        simp only [Instr.index, asIntOf, Sem.run_bind, Sem.run_pure, Result.andThen_ok, run_tu ht, if_pos h0, hb]
      · simp at h
    · simp at h
  · simp at h

theorem abound_sound {v v' : Option Value} {d top n : Nat} {code : BoundsCode} (hv : ∀ x, v = some x → ∃ x', v' = some x' ∧ VRel ρ x x') (h : abound v d top = some n) :
    (v = none → n = d) ∧ (∀ x, v = some x → n ≤ top ∧ ∃ k, v' = some (.int k (n : Int)) ∧ ∀ top', n ≤ top' → Still P (Instr.sliceBound (.int k (n : Int)) top' code) n) := by
  unfold abound at h
  split at h
  · simp only [Option.some.injEq] at h; exact ⟨fun _ => h.symm, fun x hx => by simp at hx⟩
  · rename_i x
    refine ⟨fun e => by simp at e, ?_⟩
    rintro y ⟨⟩
    obtain ⟨x', rfl, hx⟩ := hv _ rfl
    split at h
    · rename_i i hi
      obtain ⟨k, rfl⟩ := asIdx_run hi hx
      split at h
      · rename_i hc
        simp only [Option.some.injEq] at h; subst h
        refine ⟨by omega, k, by rw [Int.toNat_of_nonneg hc.1], fun top' ht w => ?_⟩
        have h1 : (0 : Int) ≤ ((i.toNat : Nat) : Int) ∧ ((i.toNat : Nat) : Int) ≤ (top' : Int) := ⟨by omega, by omega⟩
        simp only [Instr.sliceBound, asIntOf, Sem.run_bind, Sem.run_pure, Result.andThen_ok]
        rw [if_pos h1]
        simp only [Sem.run_pure, Result.ok.injEq, and_true]
        omega
      · simp at h
    · simp at h

theorem sliceBounds_two {is : Bool} {len cap l h : Nat} {lo hi lo' hi' : Option Value} (hlo : ∀ x, lo = some x → ∃ x', lo' = some x' ∧ VRel ρ x x') (hhi : ∀ x, hi = some x → ∃ x', hi' = some x' ∧ VRel ρ x x')
    (nlo : lo = none → lo' = none) (nhi : hi = none → hi' = none)
    (hl : len ≤ cap) (h1 : abound hi len len = some h) (h2 : abound lo 0 h = some l) : h ≤ len ∧ l ≤ h ∧ Still P (Instr.sliceBounds is len cap lo' hi' none) (l, h, cap) := by
  obtain ⟨a1, a2⟩ := abound_sound (P := P) (code := if is then .sliceAcap else .sliceAlen) hhi h1
  obtain ⟨b1, b2⟩ := abound_sound (P := P) (code := .sliceB) hlo h2
  have hh : h ≤ len := by
    cases hi with
    | none => have := a1 rfl; omega
    | some x => exact (a2 x rfl).1
  have ll : l ≤ h := by
    cases lo with
    | none => have := b1 rfl; omega
    | some x => exact (b2 x rfl).1
  refine ⟨hh, ll, fun w => ?_⟩
  cases hi with
  | none =>
    obtain rfl := nhi rfl
    obtain rfl := a1 rfl
    cases lo with
    | none => obtain rfl := nlo rfl; obtain rfl := b1 rfl; simp [Instr.sliceBounds]
    | some x => obtain ⟨_, k, rfl, hr⟩ := b2 x rfl; simp [Instr.sliceBounds, hr _ ll w]
  | some x =>
    obtain ⟨_, k, rfl, hr⟩ := a2 x rfl
    cases lo with
    | none => obtain rfl := nlo rfl; obtain rfl := b1 rfl; simp [Instr.sliceBounds, hr cap (by omega) w]
    | some x => obtain ⟨_, k, rfl, hr'⟩ := b2 x rfl; simp [Instr.sliceBounds, hr' _ ll w, hr cap (by omega) w]

theorem sliceBounds_three {len cap l h m : Nat} {lo lo' hi' mx' : Option Value} {hi mx : Value} (hlo : ∀ x, lo = some x → ∃ x', lo' = some x' ∧ VRel ρ x x') (hhi : ∃ x', hi' = some x' ∧ VRel ρ hi x') (hmx : ∃ x', mx' = some x' ∧ VRel ρ mx x')
    (nlo : lo = none → lo' = none)
    (hl : len ≤ cap) (h1 : abound (some hi) len len = some h) (h2 : abound lo 0 h = some l) (h3 : abound (some mx) 0 len = some m) (hm : h ≤ m) : l ≤ h ∧ m ≤ len ∧ Still P (Instr.sliceBounds true len cap lo' hi' mx') (l, h, m) := by
  obtain ⟨_, a2⟩ := abound_sound (P := P) (code := .slice3B) (v' := hi') (fun x e => by cases e; exact hhi) h1
  obtain ⟨b1, b2⟩ := abound_sound (P := P) (code := .slice3C) hlo h2
  obtain ⟨_, c2⟩ := abound_sound (P := P) (code := .slice3Acap) (v' := mx') (fun x e => by cases e; exact hmx) h3
  obtain ⟨m1, km, em, rm⟩ := c2 _ rfl
  obtain ⟨q1, kh, eh, rh⟩ := a2 _ rfl
  have ll : l ≤ h := by
    cases lo with
    | none => have := b1 rfl; omega
    | some x => exact (b2 x rfl).1
  refine ⟨ll, m1, fun w => ?_⟩
  subst em eh
  cases lo with
  | none => obtain rfl := nlo rfl; obtain rfl := b1 rfl; simp [Instr.sliceBounds, rm cap (by omega) w, rh m hm w]
  | some x => obtain ⟨_, k, rfl, hr⟩ := b2 x rfl; simp [Instr.sliceBounds, rm cap (by omega) w, rh m hm w, hr _ ll w]

theorem aslice_sound {t : TypeId} {x x' v : Value} {lo hi mx lo' hi' mx' : Option Value} (hx : VRel ρ x x')
    (hlo : ∀ x, lo = some x → ∃ x', lo' = some x' ∧ VRel ρ x x') (hhi : ∀ x, hi = some x → ∃ x', hi' = some x' ∧ VRel ρ x x') (hmx : ∀ x, mx = some x → ∃ x', mx' = some x' ∧ VRel ρ x x')
    (nlo : lo = none → lo' = none) (nhi : hi = none → hi' = none) (nmx : mx = none → mx' = none)
    (h : aslice P t x lo hi mx = some v) : ∃ v', Still P (Instr.sliceAt t x' lo' hi' mx') v' ∧ VRel ρ v v' := by
  unfold aslice at h
  split at h
  · rename_i s1 s2 s3 s ht
    cases hx
    split at h
    · rename_i hh hhi'
      split at h
      · rename_i l hl'
        simp only [Option.some.injEq] at h; subst h
        obtain ⟨e1, e2, e3⟩ := sliceBounds_two (P := P) (is := false) hlo hhi nlo nhi (Nat.le_refl _) hhi' hl'
        refine ⟨_, fun w => ?_, .string _⟩
        simp only [Instr.sliceAt, Instr.slice, Sem.run_bind, run_tu ht, Result.andThen_ok, nmx rfl, Option.isSome_none, Bool.false_eq_true, if_false, e3 w, Sem.run_pure]
      · simp at h
    · simp at h
  · rename_i e s1 s2 s3 a len k ht
    split at h
    · rename_i ie hh hie hhi'
      split at h
      · rename_i l hl'
        split at h
        · -- no max
          have nm := nmx rfl
          subst nm
          split at h
          · -- nil
            simp only [Option.some.injEq] at h; subst h
            cases hx
            obtain ⟨e1, e2, e3⟩ := sliceBounds_two (P := P) (is := true) (cap := 0) hlo hhi nlo nhi (Nat.le_refl _) hhi' hl'
            obtain rfl : hh = 0 := by omega
            obtain rfl : l = 0 := by omega
            refine ⟨_, fun w => ?_, .nilslice⟩
            simp [Instr.sliceAt, Instr.slice, run_tu ht, e3 w, run_size hie]
          · rename_i b o sz
            split at h
            · rename_i hsz
              subst hsz
              simp only [Option.some.injEq] at h; subst h
              cases hx with
              | slice0 =>
                obtain ⟨e1, e2, e3⟩ := sliceBounds_two (P := P) (is := true) (cap := 0) hlo hhi nlo nhi (Nat.le_refl _) hhi' hl'
                obtain rfl : hh = 0 := by omega
                obtain rfl : l = 0 := by omega
                rename_i a'
                refine ⟨.slice (some a') 0 0, fun w => ?_, .slice0 _ _ _ _ _⟩
                simp [Instr.sliceAt, Instr.slice, run_tu ht, e3 w, run_size hie]
              | slice hb hlc hcap hk =>
                rename_i p cap
                obtain ⟨e1, e2, e3⟩ := sliceBounds_two (P := P) (is := true) (cap := cap) hlo hhi nlo nhi hlc hhi' hl'
                by_cases hcl : cap = l
                · subst hcl
                  obtain rfl : hh = cap := by omega
                  refine ⟨.slice (some ⟨p.blk, p.sh + o, none⟩) 0 0, fun w => ?_, ?_⟩
                  · simp [Instr.sliceAt, Instr.slice, run_tu ht, e3 w, run_size hie]
                  · rw [Nat.sub_self]; exact .slice0 _ _ _ _ _
                · refine ⟨.slice (some ⟨p.blk, p.sh + (o + l * ie.size), none⟩) (hh - l) (cap - l), fun w => ?_, .slice hb (by omega) ?_ ?_⟩
                  · simp only [Instr.sliceAt, Instr.slice, Sem.run_bind, run_tu ht, Result.andThen_ok, e3 w, run_size hie, if_neg hcl, Sem.run_pure, Option.map_some]
                    congr 4
                    unfold Addr.add
                    split
                    · simp only [Addr.mk.injEq, true_and, and_true]; omega
                    · simp only [Addr.mk.injEq, true_and, and_true]; omega
                  · have : (cap - l) * ie.size + l * ie.size = cap * ie.size := by rw [← Nat.add_mul]; congr 1; omega
                    omega
                  · intro he
                    split at he
                    · rename_i hkk; have := hk hkk.1; omega
                    · omega
            · simp at h
          · simp at h
        · -- max
          rename_i m0
          split at h
          · rename_i b o sz m hv0 hm'
            split at h
            · rename_i hc
              obtain ⟨hsz, hhm⟩ := hc
              subst hsz
              simp only [Option.some.injEq] at h; subst h
              cases hx with
              | slice0 =>
                obtain ⟨e2, e1, e3⟩ := sliceBounds_three (P := P) (cap := 0) hlo (hhi _ rfl) (hmx _ rfl) nlo (Nat.le_refl _) hhi' hl' hm' hhm
                obtain rfl : m = 0 := by omega
                obtain rfl : hh = 0 := by omega
                obtain rfl : l = 0 := by omega
                rename_i a'
                refine ⟨.slice (some a') 0 0, fun w => ?_, .slice0 _ _ _ _ _⟩
                simp [Instr.sliceAt, Instr.slice, run_tu ht, e3 w, run_size hie]
              | slice hb hlc hcap hk =>
                rename_i p cap
                obtain ⟨e2, e1, e3⟩ := sliceBounds_three (P := P) (cap := cap) hlo (hhi _ rfl) (hmx _ rfl) nlo hlc hhi' hl' hm' hhm
                by_cases hcl : m = l
                · subst hcl
                  obtain rfl : hh = m := by omega
                  refine ⟨.slice (some ⟨p.blk, p.sh + o, none⟩) 0 0, fun w => ?_, ?_⟩
                  · simp [Instr.sliceAt, Instr.slice, run_tu ht, e3 w, run_size hie]
                  · rw [Nat.sub_self]; exact .slice0 _ _ _ _ _
                · refine ⟨.slice (some ⟨p.blk, p.sh + (o + l * ie.size), none⟩) (hh - l) (m - l), fun w => ?_, .slice hb (by omega) ?_ ?_⟩
                  · simp only [Instr.sliceAt, Instr.slice, Sem.run_bind, run_tu ht, Result.andThen_ok, e3 w, run_size hie, if_neg hcl, Sem.run_pure, Option.map_some]
                    congr 4
                    unfold Addr.add
                    split
                    · simp only [Addr.mk.injEq, true_and, and_true]; omega
                    · simp only [Addr.mk.injEq, true_and, and_true]; omega
                  · have h5 : (m - l) * ie.size + l * ie.size = m * ie.size := by rw [← Nat.add_mul]; congr 1; omega
                    have h6 : m * ie.size ≤ cap * ie.size := Nat.mul_le_mul_right _ (by omega)
                    omega
                  · intro he
                    split at he
                    · omega
                    · omega
            · simp at h
          · simp at h
      · simp at h
    · simp at h
  · simp at h

theorem alen_sound {ts : Array TypeId} {ty t : TypeId} {x x' v : Value} (ht : ts[0]? = some t) (hx : VRel ρ x x') (h : alen P t x = some v) : Still P (Builtin.len_ ts ty #[x']) v ∧ VRel ρ v v := by
  have ht' : ts[0]? = some t := ht
  unfold alen at h
  split at h <;> (try (simp at h; done)) <;> rename_i hu <;> simp only [Option.some.injEq] at h <;> subst h <;>
    (refine ⟨fun w => ?_, .int _ _⟩)
  · cases hx; simp [Builtin.len_, ht', run_und hu]
  · cases x' <;> simp [Builtin.len_, ht', run_und hu]
  · cases hx <;> simp [Builtin.len_, ht', run_und hu]
  · cases hx; simp [Builtin.len_, ht', run_und hu]

theorem amin2_sound {x y x' y' v : Value} (hx : VRel ρ x x') (hy : VRel ρ y y') (h : amin2 x y = some v) : Still P (Builtin.min2 x' y') v ∧ VRel ρ v v := by
  unfold amin2 at h
  split at h
  · cases hx; cases hy; simp only [Option.some.injEq] at h; subst h; exact ⟨fun w => rfl, .int _ _⟩
  · rename_i x y
    split at h
    · rename_i b hb
      obtain ⟨h1, _⟩ := astr_sound (P := P) (ρ := ρ) (t := 0) hb
      simp only [Option.some.injEq] at h; subst h
      cases hx; cases hy
      refine ⟨fun w => ?_, .string _⟩
      have h2 : (Op.stringOp .leq x y).run P w = .ok (.bool b) w := by simpa [Go.binOp] using h1 w
      simp [Builtin.min2, h2, asBool]
    · simp at h
  · simp at h
theorem amax2_sound {x y x' y' v : Value} (hx : VRel ρ x x') (hy : VRel ρ y y') (h : amax2 x y = some v) : Still P (Builtin.max2 x' y') v ∧ VRel ρ v v := by
  unfold amax2 at h
  split at h
  · cases hx; cases hy; simp only [Option.some.injEq] at h; subst h; exact ⟨fun w => rfl, .int _ _⟩
  · rename_i x y
    split at h
    · rename_i b hb
      obtain ⟨h1, _⟩ := astr_sound (P := P) (ρ := ρ) (t := 0) hb
      simp only [Option.some.injEq] at h; subst h
      cases hx; cases hy
      refine ⟨fun w => ?_, .string _⟩
      have h2 : (Op.stringOp .geq x y).run P w = .ok (.bool b) w := by simpa [Go.binOp] using h1 w
      simp [Builtin.max2, h2, asBool]
    · simp at h
  · simp at h
theorem afold_sound {f : Value → Value → Option Value} {g : Value → Value → Sem Value} (hf : ∀ {x y x' y' v : Value}, VRel ρ x x' → VRel ρ y y' → f x y = some v → Still P (g x' y') v ∧ VRel ρ v v) :
    ∀ {l l' : List Value} {x x' v : Value}, VRel ρ x x' → LRel ρ l l' → afold f x l = some v → ∃ v', Still P (l'.foldlM g x') v' ∧ VRel ρ v v' := by
  intro l
  induction l with
  | nil =>
    intro l' x x' v hx hl h
    cases hl
    simp only [afold, Option.some.injEq] at h; subst h
    exact ⟨x', fun w => rfl, hx⟩
  | cons y l ih =>
    intro l' x x' v hx hl h
    cases hl with
    | cons hy hl =>
      simp only [afold] at h
      split at h
      · rename_i z hz
        obtain ⟨h1, h2⟩ := hf hx hy hz
        obtain ⟨v', h3, h4⟩ := ih h2 hl h
        exact ⟨v', fun w => by simp [h1 w, h3 w], h4⟩
      · simp at h
end Go.AM
