/-
  THE ABSTRACT EXECUTOR: maps and clear.
-/
import Derived.Test.YtknpjlcgjlnfbaaGreatDoorAm9
set_option linter.unusedSimpArgs false
set_option linter.unusedVariables false
namespace Go.AM
variable {P : Program} {G : Nat} {ρ : Rho} {h : AHeap} {w : World}

theorem mapKind_spec {t : TypeId} {d : TypeDesc} {e : TypeId} (hk : mapKind P t = some (d, e)) :
    ∃ k, P.underlying t = some (.map k e) ∧ P.underlying k = some d ∧ ((∃ q, d = .int q) ∨ d = .string ∨ d = .bool) := by
  unfold mapKind at hk
  split at hk
  · rename_i k e' hu
    split at hk <;> (try (simp at hk; done)) <;> rename_i hu2 <;> simp only [Option.some.injEq, Prod.mk.injEq] at hk <;> obtain ⟨rfl, rfl⟩ := hk
    · exact ⟨k, hu, hu2, Or.inl ⟨_, rfl⟩⟩
    · exact ⟨k, hu, hu2, Or.inr (Or.inl rfl)⟩
    · exact ⟨k, hu, hu2, Or.inr (Or.inr rfl)⟩
  · simp at hk

theorem checkKey_run {k : TypeId} {d : TypeDesc} (hu : P.underlying k = some d) (hd : (∃ q, d = .int q) ∨ d = .string ∨ d = .bool) (em : Bool) (x : Value) (w : World) :
    (Instr.checkKey em 10000 k x).run P w = .ok () w := by
  rw [show (10000 : Nat) = 9999 + 1 from rfl, Instr.checkKey]
  simp only [Sem.run_bind, run_und hu, Result.andThen_ok]
  rcases hd with ⟨q, rfl⟩ | rfl | rfl <;> simp

theorem same_rel {d : TypeDesc} {x y x' y' : Value} {b : Bool} (hx : VRel ρ x x') (hy : VRel ρ y y') (h : Instr.sameNow d x y = some b) : Instr.sameNow d x' y' = some b := by
  unfold Instr.sameNow at h
  split at h <;> (try (simp at h; done)) <;> cases hx <;> cases hy <;> exact h

theorem ba_beq (a b : ByteArray) : (a == b) = (a.data == b.data) := by cases a; cases b; rfl
theorem ba_eq {a b : ByteArray} (h : (a == b) = true) : a = b := by
  rw [ba_beq, beq_iff_eq] at h
  cases a; cases b; simp_all
theorem ba_refl (a : ByteArray) : (a == a) = true := by rw [ba_beq]; simp

theorem same_bits {d : TypeDesc} {x y : Value} (n : Nat) (h : Instr.sameNow d x y = some true) : Instr.sameBits n y x = true := by
  unfold Instr.sameNow at h
  split at h <;> (try (simp at h; done))
  · split at h
    · rename_i hk
      simp only [Option.some.injEq, beq_iff_eq] at h
      subst hk h
      cases n <;> simp [Instr.sameBits]
    · simp at h
  · simp only [Option.some.injEq] at h
    have := ba_eq h; subst this
    cases n <;> simp only [Instr.sameBits] <;> exact ba_refl _
  · simp only [Option.some.injEq, beq_iff_eq] at h
    subst h
    cases n <;> simp [Instr.sameBits]

theorem findNow_rel {d : TypeDesc} {k k' : Value} (hk : VRel ρ k k') {es : List (Value × Value)} {es' : List MapEntry} (he : ERel ρ es es') : ∀ (i : Nat) {r : Option Value}, afind d k es = some r →
    match r with
    | none => Instr.findNow d k' es' i = some none
    | some v => ∃ j v', Instr.findNow d k' es' i = some (some (i + j, v')) ∧ VRel ρ v v' := by
  induction he with
  | nil => intro i r hr; simp only [afind, Option.some.injEq] at hr; subst hr; rfl
  | cons h1 h2 _ ih =>
    intro i r hr
    rename_i ka va e es es' _
    simp only [afind] at hr
    split at hr
    · rename_i hs
      simp only [Option.some.injEq] at hr; subst hr
      exact ⟨0, e.val, by simp [Instr.findNow, same_rel hk h1 hs], h2⟩
    · rename_i hs
      have := ih (i + 1) hr
      cases r with
      | none => simpa [Instr.findNow, same_rel hk h1 hs] using this
      | some v =>
        obtain ⟨j, v', e1, e2⟩ := this
        exact ⟨j + 1, v', by simp only [Instr.findNow, same_rel hk h1 hs]; rw [e1]; congr 3; omega, e2⟩
    · simp at hr

theorem findKey_run {kt : TypeId} {d : TypeDesc} (hu : P.underlying kt = some d) {k : Value} {es : List MapEntry} {r : Option (Nat × Value)} (h : Instr.findNow d k es 0 = some r) (w : World) :
    (Instr.findKey kt k es).run P w = .ok r w := by
  simp [Instr.findKey, run_und hu, h]

theorem getObj_run {r : Nat} {es : Array MapEntry} {c : Nat} (h : w.heap[r]? = some (.map es c)) : (getObj r).run P w = .ok (.map es c) w := by
  simp [getObj, Sem.run, h]
theorem setObj_run {r : Nat} {es es2 : Array MapEntry} {c c2 : Nat} (h : w.heap[r]? = some (.map es c)) :
    (setObj r (.map es2 c2)).run P w = .ok () { w with heap := w.heap.setIfInBounds r (.map es2 c2) } := by
  simp [setObj, Sem.run, h]

theorem alookup_sound (H : HRel G ρ h w) {t : TypeId} {m k m' k' v : Value} {ok : Bool} (hm : VRel ρ m m') (hk : VRel ρ k k') (ha : alookup P h t m k ok = some v) :
    ∃ v', (Instr.lookup t m' k' ok).run P w = .ok v' w ∧ VRel ρ v v' := by
  unfold alookup at ha
  split at ha
  · rename_i d e es hd hes
    obtain ⟨kt, hu, hk1, hk2⟩ := mapKind_spec hd
    have hent : ∃ es' : Array MapEntry, ERel ρ es es'.toList ∧ ((m' = .map none ∧ es' = #[]) ∨ ∃ r clock, m' = .map (some r) ∧ w.heap[r]? = some (.map es' clock)) := by
      unfold mapEs at hes
      split at hes
      · cases hm
        simp only [Option.some.injEq] at hes; subst hes
        exact ⟨#[], .nil, Or.inl ⟨rfl, rfl⟩⟩
      · split at hes
        · rename_i r es0 hr
          simp only [Option.some.injEq] at hes; subst hes
          cases hm with
          | map hp =>
            obtain ⟨es', clock, g1, g2, g3⟩ := H.obj _ _ _ hr hp
            exact ⟨es', g2, Or.inr ⟨_, clock, rfl, g1⟩⟩
        · simp at hes
      · simp at hes
    obtain ⟨es', he, hcase⟩ := hent
    have hf := fun r => findNow_rel (r := r) hk he 0 (d := d)
    split at ha
    · rename_i v0 _ hfa
      simp only [Option.some.injEq] at ha
      obtain ⟨j, v', e1, e2⟩ := hf _ hfa
      refine ⟨if ok then .tuple #[v', .bool true] else v', ?_, ?_⟩
      · rcases hcase with ⟨rfl, rfl⟩ | ⟨r, clock, rfl, g1⟩
        · simp [Instr.lookup, run_und hu, checkKey_run hk1 hk2, findKey_run hk1 e1]
        · simp [Instr.lookup, run_und hu, checkKey_run hk1 hk2, findKey_run hk1 e1, getObj_run g1]
      · rw [← ha]; cases ok
        · exact e2
        · exact (LRel.cons e2 (.cons (.bool _) .nil)).tuple
    · rename_i i hfa hi
      simp only [Option.some.injEq] at ha
      have e1 := hf _ hfa
      have e2 : VRel ρ i.zero i.zero := constOK_refl ρ (ti_zero hi)
      refine ⟨if ok then .tuple #[i.zero, .bool false] else i.zero, ?_, ?_⟩
      · rcases hcase with ⟨rfl, rfl⟩ | ⟨r, clock, rfl, g1⟩
        · simp [Instr.lookup, run_und hu, checkKey_run hk1 hk2, findKey_run hk1 e1, run_zero hi]
        · simp [Instr.lookup, run_und hu, checkKey_run hk1 hk2, findKey_run hk1 e1, getObj_run g1, run_zero hi]
      · rw [← ha]; cases ok
        · exact e2
        · exact (LRel.cons e2 (.cons (.bool _) .nil)).tuple
    · simp at ha
  · simp at ha

/-- A map's slot, changed. -/
theorem amap_set (H : HRel G ρ h w) {r : Nat} {p : Pl} {es es2 : List (Value × Value)} {es2' : Array MapEntry} {clock : Nat} (hb : h[r]? = some (.amap es)) (hp : ρ r = some p) (he : ERel ρ es2 es2'.toList) (hB : BornOK es2'.toList clock) :
    HRel G ρ (h.set r (.amap es2)) { w with heap := w.heap.setIfInBounds p.blk (.map es2' clock) } ∧ Fr ρ h w ρ (h.set r (.amap es2)) { w with heap := w.heap.setIfInBounds p.blk (.map es2' clock) } := by
  refine H.update hb rfl hp (by simp) rfl rfl rfl ?_ rfl ⟨es2', clock, ?_, he, hB⟩
  · intro c hc
    rw [Array.getElem?_setIfInBounds, if_neg (fun e => hc e.symm)]
  · rw [Array.getElem?_setIfInBounds, if_pos rfl, if_pos (H.lt r p hp)]

theorem ERel.push {es : List (Value × Value)} {es' : List MapEntry} (he : ERel ρ es es') {k v : Value} {e : MapEntry} (hk : VRel ρ k e.key) (hv : VRel ρ v e.val) : ERel ρ (es ++ [(k, v)]) (es' ++ [e]) := by
  induction he with
  | nil => exact .cons hk hv .nil
  | cons h1 h2 _ ih => exact .cons h1 h2 ih

theorem aupd_rel {d : TypeDesc} {k k' x x' : Value} (hk : VRel ρ k k') (hx : VRel ρ x x') {es : List (Value × Value)} {es' : List MapEntry} (he : ERel ρ es es') : ∀ (i : Nat) {r : List (Value × Value)}, aupd d k x es = some r →
    (Instr.findNow d k' es' i = some none ∧ r = es ++ [(k, x)]) ∨
    ∃ j v' e0, Instr.findNow d k' es' i = some (some (i + j, v')) ∧ es'[j]? = some e0 ∧ Instr.sameBits 10000 e0.key k' = true ∧ ERel ρ r (es'.modify j fun e => { e with key := k', val := x' }) := by
  induction he with
  | nil => intro i r hr; simp only [aupd, Option.some.injEq] at hr; subst hr; exact Or.inl ⟨rfl, rfl⟩
  | cons h1 h2 ht ih =>
    intro i r hr
    rename_i ka va e es es'
    simp only [aupd] at hr
    split at hr
    · rename_i hs
      simp only [Option.some.injEq] at hr; subst hr
      have hs' := same_rel hk h1 hs
      refine Or.inr ⟨0, e.val, e, by simp [Instr.findNow, hs'], rfl, same_bits _ hs', ?_⟩
      refine .cons ?_ hx ht
      have : k = ka := by
        unfold Instr.sameNow at hs
        split at hs <;> (try (simp at hs; done))
        · split at hs
          · rename_i hq; simp only [Option.some.injEq, beq_iff_eq] at hs; rw [hq, hs]
          · simp at hs
        · simp only [Option.some.injEq] at hs; rw [ba_eq hs]
        · simp only [Option.some.injEq, beq_iff_eq] at hs; rw [hs]
      simpa [← this] using hk
    · rename_i hs
      split at hr
      · rename_i r' hr'
        simp only [Option.some.injEq] at hr; subst hr
        have hs' := same_rel hk h1 hs
        rcases ih (i + 1) hr' with ⟨e1, e2⟩ | ⟨j, v', e0, e1, e2, e3, e4⟩
        · exact Or.inl ⟨by simpa [Instr.findNow, hs'] using e1, by simp [e2]⟩
        · exact Or.inr ⟨j + 1, v', e0, by simp only [Instr.findNow, hs']; rw [e1]; congr 3; omega, by simpa using e2, e3, .cons h1 h2 e4⟩
      · simp at hr
    · simp at hr

theorem amapUpd_sound (H : HRel G ρ h w) {t : TypeId} {m k x m' k' x' : Value} {h' : AHeap} (hm : VRel ρ m m') (hk : VRel ρ k k') (hx : VRel ρ x x') (ha : amapUpd P h t m k x = some h') :
    ∃ w', (Instr.mapUpdate t m' k' x').run P w = .ok () w' ∧ HRel G ρ h' w' ∧ Fr ρ h w ρ h' w' := by
  unfold amapUpd at ha
  split at ha
  · rename_i d e r hd
    obtain ⟨kt, hu, hk1, hk2⟩ := mapKind_spec hd
    split at ha
    · rename_i es hr
      split at ha
      · rename_i es2 hes2
        simp only [Option.some.injEq] at ha; subst ha
        cases hm with
        | map hp =>
          rename_i p
          obtain ⟨es', clock, g1, g2, g3⟩ := H.obj _ _ _ hr hp
          rcases aupd_rel hk hx g2 0 hes2 with ⟨f1, f2⟩ | ⟨j, v', e0, f1, f2, f3, f4⟩
          · subst f2
            obtain ⟨k1, k2⟩ := amap_set H (es2 := es ++ [(k, x)]) (es2' := es'.push { key := k', val := x', born := clock }) (clock := clock + 1) hr hp (by simpa using g2.push (e := { key := k', val := x', born := clock }) hk hx) (by simpa using g3.push (e := { key := k', val := x', born := clock }) rfl)
            refine ⟨_, ?_, k1, k2⟩
            simp [Instr.mapUpdate, run_und hu, getObj_run g1, checkKey_run hk1 hk2, findKey_run hk1 f1, setObj_run g1]
          · obtain ⟨k1, k2⟩ := amap_set H (es2 := es2) (es2' := es'.modify j fun e => { e with key := k', val := x' }) (clock := clock) hr hp (by simpa using f4) (by rw [Array.toList_modify]; exact g3.modify j (fun _ => rfl))
            refine ⟨_, ?_, k1, k2⟩
            rw [Nat.zero_add] at f1
            have f2' : es'[j]? = some e0 := by simpa using f2
            simp [Instr.mapUpdate, run_und hu, getObj_run g1, checkKey_run hk1 hk2, findKey_run hk1 f1, setObj_run g1, Instr.keyThatStays, f2', f3]
      · simp at ha
    · simp at ha
  · simp at ha

theorem makeMap_al (w : World) (t : TypeId) : AlV G P ρ w (Instr.makeMap t none) (fun i => .map (some i)) (.amap []) := by
  refine ⟨.map (some w.heap.size), .map #[] 0, 0, 0, by simp [Instr.makeMap], rfl, fun ρ' w' _ hw => ⟨#[], 0, hw, .nil, .nil _⟩, fun ρ' i hi => ?_⟩
  exact VRel.map (ρ := ρ') (p := ⟨w.heap.size, 0, 0⟩) hi
theorem makeMap_sound (H : HRel G ρ h w) (t : TypeId) :
    OutV G P ρ h w (Instr.makeMap t none) (.map (some h.length)) (h ++ [.amap []]) := (makeMap_al (P := P) w t).out H

theorem aclear_sound (H : HRel G ρ h w) {ts : Array TypeId} {t ty : TypeId} (ht : ts[0]? = some t) {x x' : Value} {h' : AHeap} (hx : VRel ρ x x') (ha : aclear P h t x = some h') :
    ∃ w', (Builtin.clear_ ts ty #[x']).run P w = .ok (.tuple #[]) w' ∧ HRel G ρ h' w' ∧ Fr ρ h w ρ h' w' := by
  unfold aclear at ha
  split at ha
  · rename_i e hu
    simp only [Option.some.injEq] at ha; subst ha
    cases hx
    exact ⟨w, by simp [Builtin.clear_, ht, run_und hu], H, .refl _ _ _⟩
  · rename_i e b o sz n k hu
    split at ha
    · rename_i i hi
      split at ha
      · rename_i hn
        simp only [Option.some.injEq] at ha; subst ha hn
        cases hx <;> exact ⟨w, by simp [Builtin.clear_, ht, run_und hu], H, .refl _ _ _⟩
      · rename_i hn
        split at ha
        · rename_i hc
          obtain ⟨hsz, hpos⟩ := hc
          have hzc := ti_size hi
          have hzr : LRel ρ i.zero.cells.toList i.zero.cells.toList := (constOK_refl ρ (ti_zero hi)).cells
          cases hx with
          | slice hp hl hcc hxx =>
            rename_i p cap
            obtain ⟨w', r1, r2, r3⟩ := storeN_sound (P := P) H hp (zerosOf_rel hzr n) ha
            refine ⟨w', ?_, r2, r3⟩
            have ez : (Builtin.zeroCells i.zero.cells n).toList = zerosOf i.zero.cells.toList n := zeros_eq i.zero.cells (by omega) n
            obtain ⟨n, rfl⟩ : ∃ k, n = k + 1 := ⟨n - 1, by omega⟩
            simp [Builtin.clear_, ht, run_und hu, run_zero hi, ez, r1]
          | slice0 => exact absurd rfl hn
        · simp at ha
    · simp at ha
  · rename_i hu
    simp only [Option.some.injEq] at ha; subst ha
    cases hx
    exact ⟨w, by simp [Builtin.clear_, ht, run_und hu], H, .refl _ _ _⟩
  · rename_i r hu
    split at ha
    · rename_i es hr
      simp only [Option.some.injEq] at ha; subst ha
      cases hx with
      | map hp =>
        obtain ⟨es', clock, g1, g2, g3⟩ := H.obj _ _ _ hr hp
        obtain ⟨k1, k2⟩ := amap_set H (es2 := []) (es2' := #[]) (clock := clock) hr hp .nil (.nil _)
        refine ⟨_, ?_, k1, k2⟩
        simp [Builtin.clear_, ht, run_und hu, getObj_run g1, setObj_run g1]
    · simp at ha
  · simp at ha

/-! ### Maps whose keys are arrays of numbers -/
theorem mapKindA_spec {t : TypeId} {kt e : TypeId} {m : Nat} (hk : mapKindA P t = some (kt, m, e)) :
    P.underlying t = some (.map kt e) ∧ ∃ ie q i, P.underlying kt = some (.array m ie) ∧ P.underlying ie = some (.int q) ∧ ti P ie = some i ∧ i.size = 1 ∧ i.isAgg = false := by
  unfold mapKindA at hk
  split at hk
  · rename_i k e' hu
    split at hk
    · rename_i m' ie hu2
      split at hk
      · rename_i q i hu3 hi
        split at hk
        · rename_i hs
          simp only [Option.some.injEq, Prod.mk.injEq] at hk
          obtain ⟨rfl, rfl, rfl⟩ := hk
          exact ⟨hu, ie, q, i, hu2, hu3, hi, hs.1, hs.2⟩
        · simp at hk
      · simp at hk
    · simp at hk
  · simp at hk
theorem forIn_unit {w : World} {body : Nat → Unit → Sem (ForInStep Unit)} : ∀ {l : List Nat},
    (∀ x ∈ l, (body x ()).run P w = .ok (.yield ()) w) → (forIn l () body).run P w = .ok () w := by
  intro l
  induction l with
  | nil => intro _; rfl
  | cons x l ih =>
    intro h
    rw [List.forIn_cons, Sem.run_bind, h x (by simp)]
    simp only [Result.andThen_ok]
    exact ih fun y hy => h y (by simp [hy])
theorem checkKeyA_run {kt ie : TypeId} {m : Nat} {q : IntKind} {i : TI} (hu : P.underlying kt = some (.array m ie)) (hq : P.underlying ie = some (.int q)) (hi : ti P ie = some i) (hs : i.size = 1) (ha : i.isAgg = false)
    (em : Bool) {xs : Array Value} (hx : xs.size = m) (w : World) : (Instr.checkKey em 10000 kt (.agg xs)).run P w = .ok () w := by
  rw [show (10000 : Nat) = 9999 + 1 from rfl, Instr.checkKey]
  simp only [Sem.run_bind, run_und hu, Result.andThen_ok]
  rw [Std.Legacy.Range.forIn_eq_forIn_range', forIn_unit fun j hj => ?_]
  · rfl
  simp only [Std.Legacy.Range.size, Nat.sub_zero, Nat.add_sub_cancel, Nat.div_one, List.mem_range'_1] at hj
  have h1 := part_run hi xs (j * 1) 1 hs (fun _ => rfl) (by omega) w
  simp only [Sem.run_bind, run_size hi, Result.andThen_ok, hs, h1]
  rw [show (9999 : Nat) = 9998 + 1 from rfl, Instr.checkKey]
  simp [run_und hq]
theorem isKeyA_rel {m : Nat} {k k' : Value} (hk : VRel ρ k k') (h : isKeyA m k = true) : ∃ xs, k' = .agg xs ∧ xs.size = m := by
  unfold isKeyA at h
  split at h
  · cases hk with
    | agg h1 h2 => exact ⟨_, rfl, by rw [← h1]; simpa using h⟩
  · simp at h
theorem same_array {m : Nat} {ie : TypeId} {x y : Value} : Instr.sameNow (.array m ie) x y = none := by
  unfold Instr.sameNow
  split <;> simp_all
theorem findAsking_rel {kt : TypeId} {k k' : Value} (hk : VRel ρ k k') {es : List (Value × Value)} {es' : List MapEntry} (he : ERel ρ es es') : ∀ (i : Nat) {r : Option Value}, afindA P kt k es = some r →
    match r with
    | none => ∀ w, (Instr.findAsking kt k' es' i).run P w = .ok none w
    | some v => ∃ j v', (∀ w, (Instr.findAsking kt k' es' i).run P w = .ok (some (i + j, v')) w) ∧ VRel ρ v v' := by
  induction he with
  | nil => intro i r hr; simp only [afindA, Option.some.injEq] at hr; subst hr; intro w; rfl
  | cons h1 h2 _ ih =>
    intro i r hr
    rename_i ka va e es es' _
    simp only [afindA] at hr
    split at hr
    · rename_i hs
      simp only [Option.some.injEq] at hr; subst hr
      have := (aeq_sound hk h1 hs).1
      exact ⟨0, e.val, fun w => by simp [Instr.findAsking, this w], h2⟩
    · rename_i hs
      have hq := (aeq_sound hk h1 hs).1
      have := ih (i + 1) hr
      cases r with
      | none => intro w; simp [Instr.findAsking, hq w, this w]
      | some v =>
        obtain ⟨j, v', e1, e2⟩ := this
        exact ⟨j + 1, v', fun w => by simp only [Instr.findAsking, Sem.run_bind, hq w, Result.andThen_ok, Bool.false_eq_true, if_false]; rw [e1 w]; congr 3; omega, e2⟩
    · simp at hr
theorem findKeyA_run {kt ie : TypeId} {m : Nat} (hu : P.underlying kt = some (.array m ie)) {k : Value} {es : List MapEntry} {r : Option (Nat × Value)} {w : World} (h : (Instr.findAsking kt k es 0).run P w = .ok r w) :
    (Instr.findKey kt k es).run P w = .ok r w := by
  simp only [Instr.findKey, Sem.run_bind, run_und hu, Result.andThen_ok]
  cases es with
  | nil => simpa [Instr.findNow, Instr.findAsking] using h
  | cons e es => simp only [Instr.findNow, same_array]; exact h

theorem alookupA_sound (H : HRel G ρ h w) {t : TypeId} {m k m' k' v : Value} {ok : Bool} (hm : VRel ρ m m') (hk : VRel ρ k k') (ha : alookupA P h t m k ok = some v) :
    ∃ v', (Instr.lookup t m' k' ok).run P w = .ok v' w ∧ VRel ρ v v' := by
  unfold alookupA at ha
  split at ha
  · rename_i kt q e es hd hes
    obtain ⟨hu, ie, qk, i0, hu2, hu3, hi0, hs0, ha0⟩ := mapKindA_spec hd
    split at ha
    · rename_i hkey
      obtain ⟨xs, rfl, hxs⟩ := isKeyA_rel hk hkey
      have hck := fun em w => checkKeyA_run hu2 hu3 hi0 hs0 ha0 em hxs w
      have hent : ∃ es' : Array MapEntry, ERel ρ es es'.toList ∧ ((m' = .map none ∧ es' = #[]) ∨ ∃ r clock, m' = .map (some r) ∧ w.heap[r]? = some (.map es' clock)) := by
        unfold mapEs at hes
        split at hes
        · cases hm
          simp only [Option.some.injEq] at hes; subst hes
          exact ⟨#[], .nil, Or.inl ⟨rfl, rfl⟩⟩
        · split at hes
          · rename_i r es0 hr
            simp only [Option.some.injEq] at hes; subst hes
            cases hm with
            | map hp =>
              obtain ⟨es', clock, g1, g2, g3⟩ := H.obj _ _ _ hr hp
              exact ⟨es', g2, Or.inr ⟨_, clock, rfl, g1⟩⟩
          · simp at hes
        · simp at hes
      obtain ⟨es', he, hcase⟩ := hent
      have hf := fun r => findAsking_rel (P := P) (r := r) (kt := kt) hk he 0
      split at ha
      · rename_i v0 _ hfa
        simp only [Option.some.injEq] at ha
        obtain ⟨j, v', e1, e2⟩ := hf _ hfa
        have e1 := findKeyA_run hu2 (e1 w)
        refine ⟨if ok then .tuple #[v', .bool true] else v', ?_, ?_⟩
        · rcases hcase with ⟨rfl, rfl⟩ | ⟨r, clock, rfl, g1⟩
          · simp [Instr.lookup, run_und hu, hck, e1]
          · simp [Instr.lookup, run_und hu, hck, e1, getObj_run g1]
        · rw [← ha]; cases ok
          · exact e2
          · exact (LRel.cons e2 (.cons (.bool _) .nil)).tuple
      · rename_i i hfa hi
        simp only [Option.some.injEq] at ha
        have e1 := findKeyA_run hu2 (hf _ hfa w)
        have e2 : VRel ρ i.zero i.zero := constOK_refl ρ (ti_zero hi)
        refine ⟨if ok then .tuple #[i.zero, .bool false] else i.zero, ?_, ?_⟩
        · rcases hcase with ⟨rfl, rfl⟩ | ⟨r, clock, rfl, g1⟩
          · simp [Instr.lookup, run_und hu, hck, e1, run_zero hi]
          · simp [Instr.lookup, run_und hu, hck, e1, getObj_run g1, run_zero hi]
        · rw [← ha]; cases ok
          · exact e2
          · exact (LRel.cons e2 (.cons (.bool _) .nil)).tuple
      · simp at ha
    · simp at ha
  · simp at ha

theorem acellEq_eq {c : CK} {x y : Value} (h : acellEq c x y = some true) : x = y ∧ ∀ n, Instr.sameBits n y x = true := by
  unfold acellEq at h
  split at h <;> (try (simp at h; done))
  · simp only [Option.some.injEq, beq_iff_eq] at h; subst h; exact ⟨rfl, fun n => by cases n <;> simp [Instr.sameBits]⟩
  · split at h
    · rename_i hk
      simp only [Option.some.injEq, beq_iff_eq] at h; subst hk h
      exact ⟨rfl, fun n => by cases n <;> simp [Instr.sameBits]⟩
    · simp at h
  · simp only [Option.some.injEq] at h
    have := ba_eq h; subst this
    exact ⟨rfl, fun n => by cases n <;> simp only [Instr.sameBits] <;> exact ba_refl _⟩
theorem acellsEq_eq : ∀ {ks : List CK} {xs ys : List Value}, acellsEq ks xs ys = some true → xs = ys ∧ ∀ n, ((ys.zip xs).all fun p => Instr.sameBits n p.1 p.2) = true := by
  intro ks
  induction ks with
  | nil => intro xs ys h; cases xs <;> cases ys <;> simp_all [acellsEq]
  | cons c ks ih =>
    intro xs ys h
    cases xs <;> cases ys <;> simp only [acellsEq, reduceCtorEq] at h
    split at h
    · rename_i p q hp hq
      simp only [Option.some.injEq, Bool.and_eq_true] at h
      obtain ⟨rfl, rfl⟩ := h
      obtain ⟨e1, e2⟩ := acellEq_eq hp
      obtain ⟨e3, e4⟩ := ih hq
      subst e1 e3
      exact ⟨rfl, fun n => by rw [List.zip_cons_cons, List.all_cons, e2 n, e4 n]; rfl⟩
    · simp at h
theorem aeq_agg {kt : TypeId} {xs : Array Value} {y : Value} (h : aeq P kt (.agg xs) y = some true) : y = .agg xs ∧ ∃ ks, acellsEq ks xs.toList xs.toList = some true := by
  unfold aeq at h
  split at h <;> (try (simp_all; done))
  rename_i xa ya he
  split at h
  · rename_i ks i0 _ _
    split at h
    · simp only [Value.agg.injEq] at he; subst he
      obtain ⟨e1, _⟩ := acellsEq_eq h
      have e : xs = ya := Array.toList_inj.1 e1
      subst e
      exact ⟨rfl, ks, h⟩
    · simp at h
  · simp at h
theorem bits_rel {ks : List CK} {k k' : Value} (hk : VRel ρ k k') {xs : Array Value} (hx : k = .agg xs) (h : acellsEq ks xs.toList xs.toList = some true) : Instr.sameBits 10000 k' k' = true := by
  subst hx
  have hr := acellsEq_rel hk.cells hk.cells h
  cases hk with
  | agg h1 h2 =>
    rename_i ys
    obtain ⟨_, hb⟩ := acellsEq_eq hr
    rw [show (10000 : Nat) = 9999 + 1 from rfl, Instr.sameBits]
    simp only [beq_self_eq_true, Bool.true_and]
    exact hb 9999

theorem aupdA_rel {kt : TypeId} {k k' x x' : Value} {xs : Array Value} (hxs : k = .agg xs) (hk : VRel ρ k k') (hx : VRel ρ x x') {es : List (Value × Value)} {es' : List MapEntry} (he : ERel ρ es es') : ∀ (i : Nat) {r : List (Value × Value)}, aupdA P kt k x es = some r →
    ((∀ w, (Instr.findAsking kt k' es' i).run P w = .ok none w) ∧ r = es ++ [(k, x)]) ∨
    ∃ j v' e0, (∀ w, (Instr.findAsking kt k' es' i).run P w = .ok (some (i + j, v')) w) ∧ es'[j]? = some e0 ∧ Instr.sameBits 10000 e0.key k' = true ∧ ERel ρ r (es'.modify j fun e => { e with key := k', val := x' }) := by
  induction he with
  | nil => intro i r hr; simp only [aupdA, Option.some.injEq] at hr; subst hr; exact Or.inl ⟨fun w => rfl, rfl⟩
  | cons h1 h2 ht ih =>
    intro i r hr
    rename_i ka va e es es'
    simp only [aupdA] at hr
    split at hr
    · rename_i hs
      simp only [Option.some.injEq] at hr; subst hr
      have hq := (aeq_sound hk h1 hs).1
      have hs0 := hs
      rw [hxs] at hs0
      obtain ⟨e1, ks, e2⟩ := aeq_agg hs0
      have hka : ka = k := by rw [hxs]; exact e1
      subst hka
      refine Or.inr ⟨0, e.val, e, fun w => by simp [Instr.findAsking, hq w], rfl, ?_, ?_⟩
      · have hks : e.key = k' := by
          have r1 := acellsEq_rel h1.cells hk.cells (by rw [hxs]; exact e2)
          subst hxs
          generalize e.key = ek at h1 r1
          cases h1 with
          | agg a1 a2 => cases hk with
            | agg b1 b2 =>
              have := (acellsEq_eq r1).1
              simp only [Value.cells] at this
              rw [Array.toList_inj.1 this]
        rw [hks]
        exact bits_rel hk hxs e2
      · exact .cons (by simpa using hk) hx ht
    · rename_i hs
      split at hr
      · rename_i r' hr'
        simp only [Option.some.injEq] at hr; subst hr
        have hq := (aeq_sound hk h1 hs).1
        rcases ih (i + 1) hr' with ⟨e1, e2⟩ | ⟨j, v', e0, e1, e2, e3, e4⟩
        · exact Or.inl ⟨fun w => by simp [Instr.findAsking, hq w, e1 w], by simp [e2]⟩
        · exact Or.inr ⟨j + 1, v', e0, fun w => by simp only [Instr.findAsking, Sem.run_bind, hq w, Result.andThen_ok, Bool.false_eq_true, if_false]; rw [e1 w]; congr 3; omega, by simpa using e2, e3, .cons h1 h2 e4⟩
      · simp at hr
    · simp at hr

theorem amapUpdA_sound (H : HRel G ρ h w) {t : TypeId} {m k x m' k' x' : Value} {h' : AHeap} (hm : VRel ρ m m') (hk : VRel ρ k k') (hx : VRel ρ x x') (ha : amapUpdA P h t m k x = some h') :
    ∃ w', (Instr.mapUpdate t m' k' x').run P w = .ok () w' ∧ HRel G ρ h' w' ∧ Fr ρ h w ρ h' w' := by
  unfold amapUpdA at ha
  split at ha
  · rename_i kt q e r hd
    obtain ⟨hu, ie, qk, i0, hu2, hu3, hi0, hs0, ha0⟩ := mapKindA_spec hd
    split at ha
    · rename_i hkey
      have hkx : ∃ xs, k = .agg xs := by
        unfold isKeyA at hkey
        split at hkey
        · exact ⟨_, rfl⟩
        · simp at hkey
      obtain ⟨xs0, hxs0⟩ := hkx
      obtain ⟨xs, rfl, hxs⟩ := isKeyA_rel hk hkey
      have hck := fun em w => checkKeyA_run hu2 hu3 hi0 hs0 ha0 em hxs w
      split at ha
      · rename_i es hr
        split at ha
        · rename_i es2 hes2
          simp only [Option.some.injEq] at ha; subst ha
          cases hm with
          | map hp =>
            rename_i p
            obtain ⟨es', clock, g1, g2, g3⟩ := H.obj _ _ _ hr hp
            rcases aupdA_rel hxs0 hk hx g2 0 hes2 with ⟨f1, f2⟩ | ⟨j, v', e0, f1, f2, f3, f4⟩
            · subst f2
              obtain ⟨k1, k2⟩ := amap_set H (es2 := es ++ [(k, x)]) (es2' := es'.push { key := .agg xs, val := x', born := clock }) (clock := clock + 1) hr hp (by simpa using g2.push (e := { key := .agg xs, val := x', born := clock }) hk hx) (by simpa using g3.push (e := { key := .agg xs, val := x', born := clock }) rfl)
              refine ⟨_, ?_, k1, k2⟩
              simp [Instr.mapUpdate, run_und hu, getObj_run g1, hck, findKeyA_run hu2 (f1 w), setObj_run g1]
            · obtain ⟨k1, k2⟩ := amap_set H (es2 := es2) (es2' := es'.modify j fun e => { e with key := .agg xs, val := x' }) (clock := clock) hr hp (by simpa using f4) (by rw [Array.toList_modify]; exact g3.modify j (fun _ => rfl))
              refine ⟨_, ?_, k1, k2⟩
              have f1 := f1 w
              rw [Nat.zero_add] at f1
              have f2' : es'[j]? = some e0 := by simpa using f2
              simp [Instr.mapUpdate, run_und hu, getObj_run g1, hck, findKeyA_run hu2 f1, setObj_run g1, Instr.keyThatStays, f2', f3]
        · simp at ha
      · simp at ha
    · simp at ha
  · simp at ha

theorem adel_rel {d : TypeDesc} {k k' : Value} (hk : VRel ρ k k') {es : List (Value × Value)} {es' : List MapEntry} (he : ERel ρ es es') : ∀ (i : Nat) {r : List (Value × Value)}, adel d k es = some r →
    (Instr.findNow d k' es' i = some none ∧ r = es) ∨
    ∃ j v', Instr.findNow d k' es' i = some (some (i + j, v')) ∧ j < es'.length ∧ ERel ρ r (es'.eraseIdx j) := by
  induction he with
  | nil => intro i r hr; simp only [adel, Option.some.injEq] at hr; subst hr; exact Or.inl ⟨rfl, rfl⟩
  | cons h1 h2 ht ih =>
    intro i r hr
    rename_i ka va e es es'
    simp only [adel] at hr
    split at hr
    · rename_i hs
      simp only [Option.some.injEq] at hr; subst hr
      have hs' := same_rel hk h1 hs
      exact Or.inr ⟨0, e.val, by simp [Instr.findNow, hs'], by simp, by simpa using ht⟩
    · rename_i hs
      split at hr
      · rename_i r' hr'
        simp only [Option.some.injEq] at hr; subst hr
        have hs' := same_rel hk h1 hs
        rcases ih (i + 1) hr' with ⟨e1, e2⟩ | ⟨j, v', e1, e2, e3⟩
        · exact Or.inl ⟨by simpa [Instr.findNow, hs'] using e1, by simp [e2]⟩
        · exact Or.inr ⟨j + 1, v', by simp only [Instr.findNow, hs']; rw [e1]; congr 3; omega, by simp; omega, by simpa using ERel.cons h1 h2 e3⟩
      · simp at hr
    · simp at hr
theorem adelete_sound (H : HRel G ρ h w) {ts : Array TypeId} {t ty : TypeId} (ht : ts[0]? = some t) {m k m' k' : Value} {h' : AHeap} (hm : VRel ρ m m') (hk : VRel ρ k k') (ha : adelete P h t m k = some h') :
    ∃ w', (Builtin.delete_ ts ty #[m', k']).run P w = .ok (.tuple #[]) w' ∧ HRel G ρ h' w' ∧ Fr ρ h w ρ h' w' := by
  unfold adelete at ha
  split at ha
  · rename_i d e r hd
    obtain ⟨kt, hu, hk1, hk2⟩ := mapKind_spec hd
    split at ha
    · rename_i es hr
      split at ha
      · rename_i es2 hes2
        simp only [Option.some.injEq] at ha; subst ha
        cases hm with
        | map hp =>
          obtain ⟨es', clock, g1, g2, g3⟩ := H.obj _ _ _ hr hp
          rcases adel_rel hk g2 0 hes2 with ⟨f1, f2⟩ | ⟨j, v', f1, f2, f3⟩
          · subst f2
            obtain ⟨k1, k2⟩ := amap_set H (es2 := es2) (es2' := es') (clock := clock) hr hp g2 g3
            refine ⟨_, ?_, k1, k2⟩
            simp [Builtin.delete_, ht, run_und hu, getObj_run g1, checkKey_run hk1 hk2, findKey_run hk1 f1, setObj_run g1]
          · obtain ⟨k1, k2⟩ := amap_set H (es2 := es2) (es2' := es'.eraseIdxIfInBounds j) (clock := clock) hr hp (by
              rw [Array.eraseIdxIfInBounds, dif_pos (by simpa using f2), Array.toList_eraseIdx]; exact f3) (by
              rw [Array.eraseIdxIfInBounds, dif_pos (by simpa using f2), Array.toList_eraseIdx]; exact g3.erase j)
            refine ⟨_, ?_, k1, k2⟩
            rw [Nat.zero_add] at f1
            simp [Builtin.delete_, ht, run_und hu, getObj_run g1, checkKey_run hk1 hk2, findKey_run hk1 f1, setObj_run g1]
      · simp at ha
    · simp at ha
  · simp at ha

/-- copy. -/
theorem acopy_sound (H : HRel G ρ h w) {ts : Array TypeId} {t ty : TypeId} (ht : ts[0]? = some t) {d s d' s' v : Value} {h' : AHeap} (hd : VRel ρ d d') (hs : VRel ρ s s') (ha : acopy P h t d s = some (v, h')) :
    ∃ w', (Builtin.copy_ ts ty #[d', s']).run P w = .ok v w' ∧ VRel ρ v v ∧ HRel G ρ h' w' ∧ Fr ρ h w ρ h' w' := by
  unfold acopy at ha
  split at ha
  · rename_i e b o sz len k m hu hm
    split at ha
    · rename_i ie hie
      split at ha
      · rename_i hc
        obtain ⟨hsz, hle, hpos⟩ := hc
        split at ha
        · rename_i cs hcs
          split at ha
          · rename_i h2 hst
            simp only [Option.some.injEq, Prod.mk.injEq] at ha
            obtain ⟨rfl, rfl⟩ := ha
            obtain ⟨l1, cs', l2, l3, l4⟩ := loadElems_sound (P := P) H hs hm hcs
            cases hd with
            | slice hp hl hcc hxx =>
              obtain ⟨w', r1, r2, r3⟩ := storeN_sound (P := P) H hp l3 hst
              refine ⟨w', ?_, .int _ _, r2, r3⟩
              have e1 : Nat.min m len = m := Nat.min_eq_left hle
              simp [Builtin.copy_, ht, run_und hu, l1, run_size hie, e1, l2, r1]
            | slice0 => omega
          · simp at ha
        · simp at ha
      · simp at ha
    · simp at ha
  · simp at ha
end Go.AM
