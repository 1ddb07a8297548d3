/-
  THE ABSTRACT EXECUTOR: maps and clear.
-/
import Derived.Test.YtpbmpdocgplhpaaDoorAm9
set_option linter.unusedSimpArgs false
set_option linter.unusedVariables false
namespace Go.AM
variable {P : Program} {G : Nat} {ρ : Rho} {h : AHeap} {w : World}

theorem mapKind_spec {t : TypeId} {d : TypeDesc} {e : TypeId} (hk : mapKind P t = some (d, e)) :
    ∃ k, P.underlying t = some (.map k e) ∧ P.underlying k = some d ∧ ((∃ q, d = .int q) ∨ d = .string ∨ d = .bool) := by
  unfold mapKind at hk
  split at hk
  · rename_i k e' hu
    split at hk <;> (try (simp at hk; done)) <;> rename_i hu2 <;> simp only [Option.some.injEq, Prod.mk.injEq] at hk <;> obtain ⟨rfl, rfl⟩ := hk
    · exact ⟨k, hu, hu2, Or.inl ⟨_, rfl⟩⟩
    · exact ⟨k, hu, hu2, Or.inr (Or.inl rfl)⟩
    · exact ⟨k, hu, hu2, Or.inr (Or.inr rfl)⟩
  · simp at hk

theorem checkKey_run {k : TypeId} {d : TypeDesc} (hu : P.underlying k = some d) (hd : (∃ q, d = .int q) ∨ d = .string ∨ d = .bool) (em : Bool) (x : Value) (w : World) :
    (Instr.checkKey em 10000 k x).run P w = .ok () w := by
  rw [show (10000 : Nat) = 9999 + 1 from rfl, Instr.checkKey]
  simp only [Sem.run_bind, run_und hu, Result.andThen_ok]
  rcases hd with ⟨q, rfl⟩ | rfl | rfl <;> simp

theorem same_rel {d : TypeDesc} {x y x' y' : Value} {b : Bool} (hx : VRel ρ x x') (hy : VRel ρ y y') (h : Instr.sameNow d x y = some b) : Instr.sameNow d x' y' = some b := by
  unfold Instr.sameNow at h
  split at h <;> (try (simp at h; done)) <;> cases hx <;> cases hy <;> exact h

theorem ba_beq (a b : ByteArray) : (a == b) = (a.data == b.data) := by cases a; cases b; rfl
theorem ba_eq {a b : ByteArray} (h : (a == b) = true) : a = b := by
  rw [ba_beq, beq_iff_eq] at h
  cases a; cases b; simp_all
theorem ba_refl (a : ByteArray) : (a == a) = true := by rw [ba_beq]; simp

theorem same_bits {d : TypeDesc} {x y : Value} (n : Nat) (h : Instr.sameNow d x y = some true) : Instr.sameBits n y x = true := by
  unfold Instr.sameNow at h
  split at h <;> (try (simp at h; done))
  · split at h
    · rename_i hk
      simp only [Option.some.injEq, beq_iff_eq] at h
      subst hk h
      cases n <;> simp [Instr.sameBits]
    · simp at h
  · simp only [Option.some.injEq] at h
    have := ba_eq h; subst this
    cases n <;> simp only [Instr.sameBits] <;> exact ba_refl _
  · simp only [Option.some.injEq, beq_iff_eq] at h
    subst h
    cases n <;> simp [Instr.sameBits]

theorem findNow_rel {d : TypeDesc} {k k' : Value} (hk : VRel ρ k k') {es : List (Value × Value)} {es' : List MapEntry} (he : ERel ρ es es') : ∀ (i : Nat) {r : Option Value}, afind d k es = some r →
    match r with
    | none => Instr.findNow d k' es' i = some none
    | some v => ∃ j v', Instr.findNow d k' es' i = some (some (i + j, v')) ∧ VRel ρ v v' := by
  induction he with
  | nil => intro i r hr; simp only [afind, Option.some.injEq] at hr; subst hr; rfl
  | cons h1 h2 _ ih =>
    intro i r hr
    rename_i ka va e es es' _
    simp only [afind] at hr
    split at hr
    · rename_i hs
      simp only [Option.some.injEq] at hr; subst hr
      exact ⟨0, e.val, by simp [Instr.findNow, same_rel hk h1 hs], h2⟩
    · rename_i hs
      have := ih (i + 1) hr
      cases r with
      | none => simpa [Instr.findNow, same_rel hk h1 hs] using this
      | some v =>
        obtain ⟨j, v', e1, e2⟩ := this
        exact ⟨j + 1, v', by simp only [Instr.findNow, same_rel hk h1 hs]; rw [e1]; congr 3; omega, e2⟩
    · simp at hr

theorem findKey_run {kt : TypeId} {d : TypeDesc} (hu : P.underlying kt = some d) {k : Value} {es : List MapEntry} {r : Option (Nat × Value)} (h : Instr.findNow d k es 0 = some r) (w : World) :
    (Instr.findKey kt k es).run P w = .ok r w := by
  simp [Instr.findKey, run_und hu, h]

theorem getObj_run {r : Nat} {es : Array MapEntry} {c : Nat} (h : w.heap[r]? = some (.map es c)) : (getObj r).run P w = .ok (.map es c) w := by
  simp [getObj, Sem.run, h]
theorem setObj_run {r : Nat} {es es2 : Array MapEntry} {c c2 : Nat} (h : w.heap[r]? = some (.map es c)) :
    (setObj r (.map es2 c2)).run P w = .ok () { w with heap := w.heap.setIfInBounds r (.map es2 c2) } := by
  simp [setObj, Sem.run, h]

theorem alookup_sound (H : HRel G ρ h w) {t : TypeId} {m k m' k' v : Value} {ok : Bool} (hm : VRel ρ m m') (hk : VRel ρ k k') (ha : alookup P h t m k ok = some v) :
    ∃ v', (Instr.lookup t m' k' ok).run P w = .ok v' w ∧ VRel ρ v v' := by
  unfold alookup at ha
  split at ha
  · rename_i d e es hd hes
    obtain ⟨kt, hu, hk1, hk2⟩ := mapKind_spec hd
    have hent : ∃ es' : Array MapEntry, ERel ρ es es'.toList ∧ ((m' = .map none ∧ es' = #[]) ∨ ∃ r clock, m' = .map (some r) ∧ w.heap[r]? = some (.map es' clock)) := by
      unfold mapEs at hes
      split at hes
      · cases hm
        simp only [Option.some.injEq] at hes; subst hes
        exact ⟨#[], .nil, Or.inl ⟨rfl, rfl⟩⟩
      · split at hes
        · rename_i r es0 hr
          simp only [Option.some.injEq] at hes; subst hes
          cases hm with
          | map hp =>
            obtain ⟨es', clock, g1, g2⟩ := H.obj _ _ _ hr hp
            exact ⟨es', g2, Or.inr ⟨_, clock, rfl, g1⟩⟩
        · simp at hes
      · simp at hes
    obtain ⟨es', he, hcase⟩ := hent
    have hf := fun r => findNow_rel (r := r) hk he 0 (d := d)
    split at ha
    · rename_i v0 _ hfa
      simp only [Option.some.injEq] at ha
      obtain ⟨j, v', e1, e2⟩ := hf _ hfa
      refine ⟨if ok then .tuple #[v', .bool true] else v', ?_, ?_⟩
      · rcases hcase with ⟨rfl, rfl⟩ | ⟨r, clock, rfl, g1⟩
        · simp [Instr.lookup, run_und hu, checkKey_run hk1 hk2, findKey_run hk1 e1]
        · simp [Instr.lookup, run_und hu, checkKey_run hk1 hk2, findKey_run hk1 e1, getObj_run g1]
      · rw [← ha]; cases ok
        · exact e2
        · exact (LRel.cons e2 (.cons (.bool _) .nil)).tuple
    · rename_i i hfa hi
      simp only [Option.some.injEq] at ha
      have e1 := hf _ hfa
      have e2 : VRel ρ i.zero i.zero := constOK_refl ρ (ti_zero hi)
      refine ⟨if ok then .tuple #[i.zero, .bool false] else i.zero, ?_, ?_⟩
      · rcases hcase with ⟨rfl, rfl⟩ | ⟨r, clock, rfl, g1⟩
        · simp [Instr.lookup, run_und hu, checkKey_run hk1 hk2, findKey_run hk1 e1, run_zero hi]
        · simp [Instr.lookup, run_und hu, checkKey_run hk1 hk2, findKey_run hk1 e1, getObj_run g1, run_zero hi]
      · rw [← ha]; cases ok
        · exact e2
        · exact (LRel.cons e2 (.cons (.bool _) .nil)).tuple
    · simp at ha
  · simp at ha

/-- A map's slot, changed. -/
theorem amap_set (H : HRel G ρ h w) {r : Nat} {p : Pl} {es es2 : List (Value × Value)} {es2' : Array MapEntry} {clock : Nat} (hb : h[r]? = some (.amap es)) (hp : ρ r = some p) (he : ERel ρ es2 es2'.toList) :
    HRel G ρ (h.set r (.amap es2)) { w with heap := w.heap.setIfInBounds p.blk (.map es2' clock) } ∧ Fr ρ h w ρ (h.set r (.amap es2)) { w with heap := w.heap.setIfInBounds p.blk (.map es2' clock) } := by
  refine H.update hb rfl hp (by simp) rfl rfl rfl ?_ rfl ⟨es2', clock, ?_, he⟩
  · intro c hc
    rw [Array.getElem?_setIfInBounds, if_neg (fun e => hc e.symm)]
  · rw [Array.getElem?_setIfInBounds, if_pos rfl, if_pos (H.lt r p hp)]

theorem ERel.push {es : List (Value × Value)} {es' : List MapEntry} (he : ERel ρ es es') {k v : Value} {e : MapEntry} (hk : VRel ρ k e.key) (hv : VRel ρ v e.val) : ERel ρ (es ++ [(k, v)]) (es' ++ [e]) := by
  induction he with
  | nil => exact .cons hk hv .nil
  | cons h1 h2 _ ih => exact .cons h1 h2 ih

theorem aupd_rel {d : TypeDesc} {k k' x x' : Value} (hk : VRel ρ k k') (hx : VRel ρ x x') {es : List (Value × Value)} {es' : List MapEntry} (he : ERel ρ es es') : ∀ (i : Nat) {r : List (Value × Value)}, aupd d k x es = some r →
    (Instr.findNow d k' es' i = some none ∧ r = es ++ [(k, x)]) ∨
    ∃ j v' e0, Instr.findNow d k' es' i = some (some (i + j, v')) ∧ es'[j]? = some e0 ∧ Instr.sameBits 10000 e0.key k' = true ∧ ERel ρ r (es'.modify j fun e => { e with key := k', val := x' }) := by
  induction he with
  | nil => intro i r hr; simp only [aupd, Option.some.injEq] at hr; subst hr; exact Or.inl ⟨rfl, rfl⟩
  | cons h1 h2 ht ih =>
    intro i r hr
    rename_i ka va e es es'
    simp only [aupd] at hr
    split at hr
    · rename_i hs
      simp only [Option.some.injEq] at hr; subst hr
      have hs' := same_rel hk h1 hs
      refine Or.inr ⟨0, e.val, e, by simp [Instr.findNow, hs'], rfl, same_bits _ hs', ?_⟩
      refine .cons ?_ hx ht
      have : k = ka := by
        unfold Instr.sameNow at hs
        split at hs <;> (try (simp at hs; done))
        · split at hs
          · rename_i hq; simp only [Option.some.injEq, beq_iff_eq] at hs; rw [hq, hs]
          · simp at hs
        · simp only [Option.some.injEq] at hs; rw [ba_eq hs]
        · simp only [Option.some.injEq, beq_iff_eq] at hs; rw [hs]
      simpa [← this] using hk
    · rename_i hs
      split at hr
      · rename_i r' hr'
        simp only [Option.some.injEq] at hr; subst hr
        have hs' := same_rel hk h1 hs
        rcases ih (i + 1) hr' with ⟨e1, e2⟩ | ⟨j, v', e0, e1, e2, e3, e4⟩
        · exact Or.inl ⟨by simpa [Instr.findNow, hs'] using e1, by simp [e2]⟩
        · exact Or.inr ⟨j + 1, v', e0, by simp only [Instr.findNow, hs']; rw [e1]; congr 3; omega, by simpa using e2, e3, .cons h1 h2 e4⟩
      · simp at hr
    · simp at hr

theorem amapUpd_sound (H : HRel G ρ h w) {t : TypeId} {m k x m' k' x' : Value} {h' : AHeap} (hm : VRel ρ m m') (hk : VRel ρ k k') (hx : VRel ρ x x') (ha : amapUpd P h t m k x = some h') :
    ∃ w', (Instr.mapUpdate t m' k' x').run P w = .ok () w' ∧ HRel G ρ h' w' ∧ Fr ρ h w ρ h' w' := by
  unfold amapUpd at ha
  split at ha
  · rename_i d e r hd
    obtain ⟨kt, hu, hk1, hk2⟩ := mapKind_spec hd
    split at ha
    · rename_i es hr
      split at ha
      · rename_i es2 hes2
        simp only [Option.some.injEq] at ha; subst ha
        cases hm with
        | map hp =>
          rename_i p
          obtain ⟨es', clock, g1, g2⟩ := H.obj _ _ _ hr hp
          rcases aupd_rel hk hx g2 0 hes2 with ⟨f1, f2⟩ | ⟨j, v', e0, f1, f2, f3, f4⟩
          · subst f2
            obtain ⟨k1, k2⟩ := amap_set H (es2 := es ++ [(k, x)]) (es2' := es'.push { key := k', val := x', born := clock }) (clock := clock + 1) hr hp (by simpa using g2.push (e := { key := k', val := x', born := clock }) hk hx)
            refine ⟨_, ?_, k1, k2⟩
            simp [Instr.mapUpdate, run_und hu, getObj_run g1, checkKey_run hk1 hk2, findKey_run hk1 f1, setObj_run g1]
          · obtain ⟨k1, k2⟩ := amap_set H (es2 := es2) (es2' := es'.modify j fun e => { e with key := k', val := x' }) (clock := clock) hr hp (by simpa using f4)
            refine ⟨_, ?_, k1, k2⟩
            rw [Nat.zero_add] at f1
            have f2' : es'[j]? = some e0 := by simpa using f2
            simp [Instr.mapUpdate, run_und hu, getObj_run g1, checkKey_run hk1 hk2, findKey_run hk1 f1, setObj_run g1, Instr.keyThatStays, f2', f3]
      · simp at ha
    · simp at ha
  · simp at ha

theorem makeMap_sound (H : HRel G ρ h w) (t : TypeId) :
    OutV G P ρ h w (Instr.makeMap t none) (.map (some h.length)) (h ++ [.amap []]) := by
  obtain ⟨k1, k2⟩ := H.alloc (oc := .map #[] 0) (oa := .amap []) (sh := 0) (en := 0) ⟨#[], 0, heap_push_new w _, .nil⟩
  refine ⟨_, .map (some w.heap.size), _, ?_, ?_, k1, k2⟩
  · simp [Instr.makeMap]
  · exact VRel.map (ρ := upd ρ h.length ⟨w.heap.size, 0, 0⟩) (p := ⟨w.heap.size, 0, 0⟩) (upd_same _ _ _)

theorem aclear_sound (H : HRel G ρ h w) {ts : Array TypeId} {t ty : TypeId} (ht : ts[0]? = some t) {x x' : Value} {h' : AHeap} (hx : VRel ρ x x') (ha : aclear P h t x = some h') :
    ∃ w', (Builtin.clear_ ts ty #[x']).run P w = .ok (.tuple #[]) w' ∧ HRel G ρ h' w' ∧ Fr ρ h w ρ h' w' := by
  unfold aclear at ha
  split at ha
  · rename_i e hu
    simp only [Option.some.injEq] at ha; subst ha
    cases hx
    exact ⟨w, by simp [Builtin.clear_, ht, run_und hu], H, .refl _ _ _⟩
  · rename_i e b o sz n k hu
    split at ha
    · rename_i i hi
      split at ha
      · rename_i hn
        simp only [Option.some.injEq] at ha; subst ha hn
        cases hx <;> exact ⟨w, by simp [Builtin.clear_, ht, run_und hu], H, .refl _ _ _⟩
      · rename_i hn
        split at ha
        · rename_i hc
          obtain ⟨hsz, hpos⟩ := hc
          have hzc := ti_size hi
          have hzr : LRel ρ i.zero.cells.toList i.zero.cells.toList := (constOK_refl ρ (ti_zero hi)).cells
          cases hx with
          | slice hp hl hcc hxx =>
            rename_i p cap
            obtain ⟨w', r1, r2, r3⟩ := storeN_sound (P := P) H hp (zerosOf_rel hzr n) ha
            refine ⟨w', ?_, r2, r3⟩
            have ez : (Builtin.zeroCells i.zero.cells n).toList = zerosOf i.zero.cells.toList n := zeros_eq i.zero.cells (by omega) n
            obtain ⟨n, rfl⟩ : ∃ k, n = k + 1 := ⟨n - 1, by omega⟩
            simp [Builtin.clear_, ht, run_und hu, run_zero hi, ez, r1]
          | slice0 => exact absurd rfl hn
        · simp at ha
    · simp at ha
  · rename_i hu
    simp only [Option.some.injEq] at ha; subst ha
    cases hx
    exact ⟨w, by simp [Builtin.clear_, ht, run_und hu], H, .refl _ _ _⟩
  · rename_i r hu
    split at ha
    · rename_i es hr
      simp only [Option.some.injEq] at ha; subst ha
      cases hx with
      | map hp =>
        obtain ⟨es', clock, g1, g2⟩ := H.obj _ _ _ hr hp
        obtain ⟨k1, k2⟩ := amap_set H (es2 := []) (es2' := #[]) (clock := clock) hr hp .nil
        refine ⟨_, ?_, k1, k2⟩
        simp [Builtin.clear_, ht, run_und hu, getObj_run g1, setObj_run g1]
    · simp at ha
  · simp at ha
end Go.AM
