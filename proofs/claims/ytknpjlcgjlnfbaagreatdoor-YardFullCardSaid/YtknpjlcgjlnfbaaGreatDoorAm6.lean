/-
  THE ABSTRACT EXECUTOR: every operation that looks at nothing but its operands.
-/
import Derived.Test.YtknpjlcgjlnfbaaGreatDoorAm5
set_option linter.unusedSimpArgs false
set_option linter.unusedVariables false
namespace Go.AM
variable {P : Program} {ρ : Rho}

theorem run_makeInterface {t : TypeId} {d : TypeDesc} (h : P.underlying t = some d) (hd : ∀ ms, d ≠ .interface ms) (x : Value) (w : World) : (Instr.makeInterface t x).run P w = .ok (.iface t x) w := by
  simp only [Instr.makeInterface, Sem.run_bind, run_und h, Result.andThen_ok]
  cases d <;> first | rfl | exact absurd rfl (hd _)

theorem map_rel {G : Nat} {ea ec : Operand → Value} (hE : ∀ x, opndOK G x = true → VRel ρ (ea x) (ec x)) {l : List Operand} (h : l.all (opndOK G) = true) : LRel ρ (l.map ea) (l.map ec) := by
  induction l with
  | nil => exact .nil
  | cons x l ih => simp only [List.all_cons, Bool.and_eq_true] at h; exact .cons (hE x h.1) (ih h.2)

theorem opt_rel {G : Nat} {ea ec : Operand → Value} (hE : ∀ x, opndOK G x = true → VRel ρ (ea x) (ec x)) {o : Option Operand} (h : ∀ x, o = some x → opndOK G x = true) :
    (∀ x, o.map ea = some x → ∃ x', o.map ec = some x' ∧ VRel ρ x x') ∧ (o.map ea = none → o.map ec = none) := by
  cases o with
  | none => exact ⟨fun x hx => by simp at hx, fun _ => rfl⟩
  | some y => exact ⟨fun x hx => by simp at hx; subst hx; exact ⟨_, rfl, hE y (h y rfl)⟩, fun hx => by simp at hx⟩

theorem atypeAssert_sound {x x' v : Value} {xt t : TypeId} {ok : Bool} (hx : VRel ρ x x') (h : atypeAssert P x t ok = some v) :
    ∃ v', Still P (Instr.typeAssert x' xt t ok) v' ∧ VRel ρ v v' := by
  have miss : ∀ {i : TI}, ti P t = some i → VRel ρ (.tuple #[i.zero, .bool false]) (.tuple #[i.zero, .bool false]) := fun hi =>
    (LRel.cons (constOK_refl ρ (ti_zero hi)) (.cons (.bool _) .nil)).tuple
  unfold atypeAssert at h
  split at h
  · simp at h
  · simp at h
  · rename_i d hni hu
    split at h
    · rename_i t' v0
      cases hx with
      | iface _ hv =>
        rename_i v0'
        split at h
        · rename_i ht
          subst ht
          simp only [Option.some.injEq] at h; subst h
          refine ⟨if ok then .tuple #[v0', .bool true] else v0', fun w => ?_, ?_⟩
          · unfold Instr.typeAssert
            cases d <;> simp_all [run_und hu] <;> cases ok <;> simp
          · cases ok
            · exact hv
            · exact (LRel.cons hv (.cons (.bool _) .nil)).tuple
        · rename_i ht
          split at h
          · rename_i hok
            subst hok
            split at h
            · rename_i i hi
              simp only [Option.some.injEq] at h; subst h
              refine ⟨_, fun w => ?_, miss hi⟩
              unfold Instr.typeAssert
              cases d <;> simp_all [run_und hu, run_zero hi]
            · simp at h
          · simp at h
    · cases hx
      split at h
      · rename_i hok
        subst hok
        split at h
        · rename_i i hi
          simp only [Option.some.injEq] at h; subst h
          refine ⟨_, fun w => ?_, miss hi⟩
          unfold Instr.typeAssert
          cases d <;> simp_all [run_und hu, run_zero hi]
        · simp at h
      · simp at h
    · simp at h

theorem anil_sound {o : BinOp} {t : TypeId} {x y : Operand} {a b a' b' v : Value} (ha : VRel ρ a a') (hb : VRel ρ b b') (h : anil P o t x y a b = some v) :
    Still P (do eqGuard o t x y a' b'; Go.binOp o t a' b' : Sem Value) v ∧ VRel ρ v v := by
  unfold anil at h
  split at h
  · cases ha; cases hb
    split at h
    · rename_i ms hu
      split at h
      · rename_i hc
        have hg : ∀ w, (eqGuard o t x y .nilIface .nilIface).run P w = .ok () w := by
          intro w
          unfold eqGuard
          cases x <;> cases y <;> simp_all [isConst] <;> split <;> simp
        have he : ∀ w, (Op.equal t .nilIface .nilIface).run P w = .ok true w := by
          intro w
          unfold Op.equal; rw [show Op.maxDepth = 9999 + 1 from rfl, Op.equalIn]; simp [run_und hu]
        split at h <;> (try (simp at h; done)) <;> simp only [Option.some.injEq] at h <;> subst h <;> exact ⟨fun w => by simp [hg w, Go.binOp, he w], .bool _⟩
      · simp at h
    · simp at h
  · simp at h

theorem apure_sound {G : Nat} {ea ec : Operand → Value} (hE : ∀ x, opndOK G x = true → VRel ρ (ea x) (ec x)) {o : Oper} (ho : operOK G o = true) {v : Value} (h : apure P ea o.op = some v) :
    ∃ v', (∀ w, (execOp ec o).run P w = .ok (.value v') w) ∧ VRel ρ v v' := by
  have ho : ∀ x ∈ o.op.operands.toList, opndOK G x = true := List.all_eq_true.1 ho
  unfold apure at h
  split at h
  · -- move
    rename_i x hop
    simp only [Option.some.injEq] at h; subst h
    rw [hop] at ho
    exact ⟨ec x, fun w => by simp [execOp, hop], hE x (ho x (by simp [Op.operands, Call.operands]))⟩
  · rename_i x hop
    simp only [Option.some.injEq] at h; subst h
    rw [hop] at ho
    exact ⟨ec x, fun w => by simp [execOp, hop], hE x (ho x (by simp [Op.operands, Call.operands]))⟩
  · -- pick
    rename_i c a b hop
    rw [hop] at ho
    have hc := hE c (ho c (by simp [Op.operands, Call.operands]))
    split at h
    · rename_i hcv
      rw [hcv] at hc
      simp only [Option.some.injEq] at h; subst h
      refine ⟨ec a, fun w => ?_, hE a (ho a (by simp [Op.operands, Call.operands]))⟩
      generalize hcc : ec c = cc at hc
      cases hc
      simp [execOp, hop, hcc, asBool]
    · rename_i hcv
      rw [hcv] at hc
      simp only [Option.some.injEq] at h; subst h
      refine ⟨ec b, fun w => ?_, hE b (ho b (by simp [Op.operands, Call.operands]))⟩
      generalize hcc : ec c = cc at hc
      cases hc
      simp [execOp, hop, hcc, asBool]
    · simp at h
  · -- build
    rename_i t parts hop
    rw [hop] at ho
    have hall : (parts.toList.map (·.2)).all (opndOK G) = true := by
      rw [List.all_eq_true]
      intro x hx
      rw [List.mem_map] at hx
      obtain ⟨p, hp, rfl⟩ := hx
      exact ho p.2 (by simp only [Op.operands, List.mem_map]; exact ⟨p, hp, rfl⟩)
    obtain ⟨v', h1, h2⟩ := abuild_sound (ρ := ρ) (parts' := parts.toList.map fun p => (p.1, ec p.2)) (by simp) (by have := map_rel hE hall; simpa [List.map_map, Function.comp_def] using this) h
    refine ⟨v', fun w => ?_, h2⟩
    have e : (parts.toList.map fun p => (p.1, ec p.2)).toArray = parts.map fun (i, x) => (i, ec x) := by
      apply Array.toList_inj.1; simp
    rw [e] at h1
    simp only [execOp, hop, Sem.run_bind]
    rw [h1 w]; rfl
  · -- nilCheck
    rename_i x hop
    rw [hop] at ho
    have hx := hE x (ho x (by simp [Op.operands, Call.operands]))
    split at h
    · rename_i a hxv
      rw [hxv] at hx
      simp only [Option.some.injEq] at h; subst h
      generalize hcc : ec x = cc at hx
      refine ⟨cc, fun w => ?_, hx⟩
      cases hx
      simp [execOp, hop, hcc]
    · simp at h
  · -- binOp
    rename_i op t x y yt hop
    rw [hop] at ho
    have hx := hE x (ho x (by simp [Op.operands, Call.operands]))
    have hy := hE y (ho y (by simp [Op.operands, Call.operands]))
    split at h
    · rename_i v0 hb
      simp only [Option.some.injEq] at h; subst h
      obtain ⟨v', h1, h2⟩ := abin_sound (ox := x) (oy := y) hx hy hb
      refine ⟨v', fun w => ?_, h2⟩
      simp only [execOp, hop]
      rw [Sem.run_bind, h1 w]; rfl
    · refine ⟨v, fun w => ?_, (anil_sound hx hy h).2⟩
      simp only [execOp, hop]
      rw [Sem.run_bind, (anil_sound hx hy h).1 w]; rfl
  · -- unOp
    rename_i op t x hop
    rw [hop] at ho
    obtain ⟨h1, h2⟩ := aun_sound (P := P) (hE x (ho x (by simp [Op.operands, Call.operands]))) h
    exact ⟨v, fun w => by simp only [execOp, hop]; rw [Sem.run_bind, h1 w]; rfl, h2⟩
  · -- convert
    rename_i s d x hop
    rw [hop] at ho
    obtain ⟨h1, h2⟩ := aconv_sound (hE x (ho x (by simp [Op.operands, Call.operands]))) h
    exact ⟨v, fun w => by simp only [execOp, hop]; rw [Sem.run_bind, h1 w]; rfl, h2⟩
  · -- makeInterface
    rename_i t x hop
    rw [hop] at ho
    split at h
    · simp at h
    · rename_i d hnd hu
      split at h
      · simp only [Option.some.injEq] at h; subst h
        exact ⟨.iface t (ec x), fun w => by simp only [execOp, hop]; rw [Sem.run_bind, run_makeInterface hu (fun ms e => hnd ms e)]; rfl, .iface t (hE x (ho x (by simp [Op.operands, Call.operands])))⟩
      · simp at h
    · simp at h
  · -- makeFunc
    rename_i f first captured hop
    rw [hop] at ho
    simp only [Option.some.injEq] at h; subst h
    have hf : first.toList.all (opndOK G) = true := by rw [List.all_eq_true]; intro x hx; exact ho x (by simp [Op.operands]; exact Or.inl (by simpa using hx))
    have hc : captured.toList.all (opndOK G) = true := by rw [List.all_eq_true]; intro x hx; exact ho x (by simp [Op.operands]; exact Or.inr (by simpa using hx))
    refine ⟨.func (.func f) (first.map ec) (captured.map ec), fun w => by simp [execOp, hop, Instr.makeFunc], ?_⟩
    refine .func f (by simp) (by simp) (fun i hi hi' => ?_) (fun i hi hi' => ?_)
    · simp only [Array.getElem_map]
      exact hE _ (List.all_eq_true.1 hf _ (by simp))
    · simp only [Array.getElem_map]
      exact hE _ (List.all_eq_true.1 hc _ (by simp))
  · -- slice
    rename_i t x lo hi mx hop
    rw [hop] at ho
    obtain ⟨l1, l2⟩ := opt_rel (ρ := ρ) hE (o := lo) (fun y hy => ho y (by simp [Op.operands, hy]))
    obtain ⟨m1, m2⟩ := opt_rel (ρ := ρ) hE (o := hi) (fun y hy => ho y (by simp [Op.operands, hy]))
    obtain ⟨n1, n2⟩ := opt_rel (ρ := ρ) hE (o := mx) (fun y hy => ho y (by simp [Op.operands, hy]))
    obtain ⟨v', h1, h2⟩ := aslice_sound (hE x (ho x (by simp [Op.operands, Call.operands]))) l1 m1 n1 l2 m2 n2 h
    exact ⟨v', fun w => by simp only [execOp, hop]; rw [Sem.run_bind, h1 w]; rfl, h2⟩
  · -- fieldAddr
    rename_i s x f hop
    rw [hop] at ho
    obtain ⟨v', h1, h2⟩ := afieldAddr_sound (hE x (ho x (by simp [Op.operands, Call.operands]))) h
    exact ⟨v', fun w => by simp only [execOp, hop]; rw [Sem.run_bind, h1 w]; rfl, h2⟩
  · rename_i s x f hop
    rw [hop] at ho
    obtain ⟨v', h1, h2⟩ := afield_sound (hE x (ho x (by simp [Op.operands, Call.operands]))) h
    exact ⟨v', fun w => by simp only [execOp, hop]; rw [Sem.run_bind, h1 w]; rfl, h2⟩
  · rename_i t x ix hop
    rw [hop] at ho
    obtain ⟨v', h1, h2⟩ := aindexAddr_sound (hE x (ho x (by simp [Op.operands, Call.operands]))) (hE ix (ho ix (by simp [Op.operands, Call.operands]))) h
    exact ⟨v', fun w => by simp only [execOp, hop]; rw [Sem.run_bind, h1 w]; rfl, h2⟩
  · rename_i t x ix hop
    rw [hop] at ho
    obtain ⟨v', h1, h2⟩ := aindex_sound (hE x (ho x (by simp [Op.operands, Call.operands]))) (hE ix (ho ix (by simp [Op.operands, Call.operands]))) h
    exact ⟨v', fun w => by simp only [execOp, hop]; rw [Sem.run_bind, h1 w]; rfl, h2⟩
  · -- extract
    rename_i x i hop
    rw [hop] at ho
    have hx := hE x (ho x (by simp [Op.operands, Call.operands]))
    split at h
    · rename_i vs hxv
      rw [hxv] at hx
      generalize hcc : ec x = cc at hx
      cases hx with
      | tuple hs hc =>
        rename_i vs'
        obtain ⟨v', h1, h2⟩ := (LRel.toArray hs hc).get? (i := i) (v := v) (by simpa using h)
        have h1' : vs'[i]? = some v' := by simpa using h1
        exact ⟨v', fun w => by simp [execOp, hop, hcc, Instr.extract, h1'], h2⟩
    · simp at h
  · -- typeAssert
    rename_i x xt t ok hop
    rw [hop] at ho
    obtain ⟨v', h1, h2⟩ := atypeAssert_sound (P := P) (xt := xt) (hE x (ho x (by simp [Op.operands, Call.operands]))) h
    exact ⟨v', fun w => by simp only [execOp, hop]; rw [Sem.run_bind, h1 w]; rfl, h2⟩
  · -- len
    rename_i args argTypes hop
    rw [hop] at ho
    split at h
    · rename_i x t ha hat
      have hargs : args = #[x] := by apply Array.toList_inj.1; simpa using ha
      have htys : argTypes = #[t] := by apply Array.toList_inj.1; simpa using hat
      subst hargs htys
      obtain ⟨h1, h2⟩ := alen_sound (P := P) (ts := #[t]) (ty := o.type) (t := t) (by simp) (hE x (ho x (by simp [Op.operands, Call.operands]))) h
      exact ⟨v, fun w => by simp [execOp, hop, resolve, invoke, builtin, h1 w], h2⟩
    · simp at h
  · -- min
    rename_i args at_ hop
    rw [hop] at ho
    split at h
    · rename_i x r ha
      have hall : args.toList.all (opndOK G) = true := by rw [List.all_eq_true]; intro y hy; exact ho y (by simp [Op.operands, Call.operands]; simpa using hy)
      have hm := map_rel hE hall
      rw [ha] at hm
      cases hl : args.toList.map ec with
      | nil => rw [hl] at hm; cases hm
      | cons x' r' =>
        rw [hl] at hm
        cases hm with
        | cons hx hr =>
          obtain ⟨v', h1, h2⟩ := afold_sound (g := Builtin.min2) (P := P) (fun a b c => amin2_sound a b c) hx hr h
          refine ⟨v', fun w => ?_, h2⟩
          have e : (args.map ec).toList = x' :: r' := by simpa using hl
          simp [execOp, hop, resolve, invoke, builtin, Builtin.min_, hl, h1 w]
    · simp at h
  · -- max
    rename_i args at_ hop
    rw [hop] at ho
    split at h
    · rename_i x r ha
      have hall : args.toList.all (opndOK G) = true := by rw [List.all_eq_true]; intro y hy; exact ho y (by simp [Op.operands, Call.operands]; simpa using hy)
      have hm := map_rel hE hall
      rw [ha] at hm
      cases hl : args.toList.map ec with
      | nil => rw [hl] at hm; cases hm
      | cons x' r' =>
        rw [hl] at hm
        cases hm with
        | cons hx hr =>
          obtain ⟨v', h1, h2⟩ := afold_sound (g := Builtin.max2) (P := P) (fun a b c => amax2_sound a b c) hx hr h
          refine ⟨v', fun w => ?_, h2⟩
          simp [execOp, hop, resolve, invoke, builtin, Builtin.max_, hl, h1 w]
    · simp at h
  · simp at h
end Go.AM
