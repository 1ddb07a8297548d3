/-
  THE ABSTRACT EXECUTOR: calls: THE THEOREM.
-/
import Derived.Test.YtknpjlcgjlnfbaaGreatDoorAm15
set_option linter.unusedSimpArgs false
set_option linter.unusedVariables false
namespace Go.AM
variable {P : Program} {G : Nat}

/-! ### Results -/
/-- One result. -/
def resOf (tmps : Array Value) : ResultVar → Sem Value
  | .tmp i => pure (tmps.getD i undef)
  | .cell a ty => do loadVar ty (← asAddr (tmps.getD a undef))

theorem aresultsL_sound {ρ : Rho} {h : AHeap} {w : World} (H : HRel G ρ h w) {t : List Value} {tmps : Array Value} (ht : LRel ρ t tmps.toList) : ∀ {rs : List ResultVar} {vs : List Value}, aresultsL P t h rs = some vs →
    ∃ vs', (rs.mapM (resOf tmps)).run P w = .ok vs' w ∧ LRel ρ vs vs' := by
  intro rs
  induction rs with
  | nil => intro vs h; simp only [aresultsL, Option.some.injEq] at h; subst h; exact ⟨[], rfl, .nil⟩
  | cons r rs ih =>
    intro vs hv
    simp only [aresultsL] at hv
    split at hv
    · rename_i v vs1 hr hrs
      simp only [Option.some.injEq] at hv; subst hv
      obtain ⟨vs', h1, h2⟩ := ih hrs
      have hr' : ∃ v', (resOf tmps r).run P w = .ok v' w ∧ VRel ρ v v' := by
        cases r with
        | tmp i =>
          simp only [aresult, Option.some.injEq] at hr; subst hr
          have := ht.getD i
          exact ⟨tmps.getD i undef, rfl, by simpa using this⟩
        | cell a ty =>
          simp only [aresult] at hr
          have hga := ht.getD a
          have e : tmps.toList.getD a undef = tmps.getD a undef := by simp
          rw [e] at hga
          obtain ⟨v', _, ⟨x, e1, e2⟩, h4⟩ := aload_sound H hga hr
          exact ⟨v', by simp only [resOf]; rw [e1]; simp [asAddr, e2], h4⟩
      obtain ⟨v', h3, h4⟩ := hr'
      refine ⟨v' :: vs', ?_, .cons h4 h2⟩
      rw [List.mapM_cons, Sem.run_bind, h3]
      simp only [Result.andThen_ok, Sem.run_bind]
      rw [h1]; rfl
    · simp at hv

theorem aresults_sound {ρ : Rho} {h : AHeap} {w : World} (H : HRel G ρ h w) {t : List Value} {tmps : Array Value} (ht : LRel ρ t tmps.toList) {fn : Func} {v : Value} (hv : aresults P fn.results.toList t h = some v) :
    ∃ v', (results fn tmps).run P w = .ok v' w ∧ VRel ρ v v' := by
  unfold aresults at hv
  have key : ∀ {vs : List Value}, aresultsL P t h fn.results.toList = some vs → ∃ vs' : List Value, (results fn tmps).run P w = .ok (if h : vs'.toArray.size = 1 then vs'.toArray[0] else .tuple vs'.toArray) w ∧ LRel ρ vs vs' := by
    intro vs hvs
    obtain ⟨vs', h1, h2⟩ := aresultsL_sound H ht hvs
    refine ⟨vs', ?_, h2⟩
    have e : results fn tmps = (do
        let vs ← fn.results.mapM (resOf tmps)
        pure (if h : vs.size = 1 then vs[0] else .tuple vs)) := rfl
    rw [e, Array.mapM_eq_mapM_toList, Sem.run_bind, Sem.run_map]
    rw [h1]
    simp only [Result.andThen_ok, Sem.run_pure]
  split at hv
  · rename_i v0 hvs
    simp only [Option.some.injEq] at hv; subst hv
    obtain ⟨vs', h1, h2⟩ := key hvs
    cases h2 with
    | cons h3 h4 =>
      cases h4
      exact ⟨_, by rw [h1]; simp, h3⟩
  · rename_i vs hne hvs
    simp only [Option.some.injEq] at hv; subst hv
    obtain ⟨vs', h1, h2⟩ := key hvs
    refine ⟨.tuple vs'.toArray, ?_, h2.tuple⟩
    rw [h1, dif_neg]
    intro hs
    have hl := h2.length
    have : vs.length = 1 := by rw [hl]; simpa using hs
    match vs, this with
    | [x], _ => exact hne x rfl
  · simp at hv

/-! ### Leaving -/
theorem unwind_marks {ρ0 ρ : Rho} {h0 h : AHeap} {w0 : World} : ∀ (Ds : List Nat) {w : World} (fr : Frame), fr.mode = .returning → fr.defers = marks Ds → Ds.Nodup → (∀ D ∈ Ds, w0.heap.size ≤ D ∧ w.heap[D]? = some (.deferred (some []))) →
    HRel G ρ h w → Fr ρ0 h0 w0 ρ h w → ∀ (cs : List Frame), ∃ w', HRel G ρ h w' ∧ Fr ρ0 h0 w0 ρ h w' ∧ Steps P (lone fr cs w) (lone { fr with defers := [] } cs w') := by
  intro Ds
  induction Ds with
  | nil =>
    intro w fr hm hd _ _ H F cs
    refine ⟨w, H, F, ?_⟩
    have : { fr with defers := [] } = fr := by
      have : fr.defers = [] := hd
      cases fr; simp_all
    rw [this]; exact .refl _ _
  | cons D Ds ih =>
    intro w fr hm hd hnd hD H F cs
    obtain ⟨hge, hb⟩ := hD D (by simp)
    let w1 : World := { w with heap := w.heap.setIfInBounds D (.deferred none) }
    have hk : (Instr.takeDeferred D).run P w = .ok [] w1 := by
      simp [Instr.takeDeferred, getObj, setObj, Sem.run, hb, w1]
    have hother : ∀ c, c ≠ D → w1.heap[c]? = w.heap[c]? := by
      intro c hc; show (w.heap.setIfInBounds D _)[c]? = _; rw [Array.getElem?_setIfInBounds, if_neg (fun e => hc e.symm)]
    have hsz : w1.heap.size = w.heap.size := by show (w.heap.setIfInBounds D _).size = _; simp
    have H1 : HRel G ρ h w1 := by
      refine ⟨H.dom, fun b o p hbo hp => (H.obj b o p hbo hp).mono (.refl ρ) (fun hl => hother _ (fun e => ?_)), fun b p hp => by have := H.lt b p hp; omega, H.bd, H.sep, H.glob, H.gown, by have := H.gsz; omega⟩
      have := own_not_deferred hl (H.obj b o p hbo hp) (x := some [])
      rw [e] at this; exact this hb
    have F1 : Fr ρ0 h0 w0 ρ h w1 := ⟨F.ext, by have := F.size; omega, F.tape, F.os, F.output, F.own, F.liv, fun c hc hn => by rw [hother c (by omega)]; exact F.keep c hc hn⟩
    rw [List.nodup_cons] at hnd
    obtain ⟨w', r1, r2, r3⟩ := ih { fr with defers := marks Ds } hm rfl hnd.2 (fun D' hD' => by
      have := hD D' (by simp [hD'])
      exact ⟨this.1, by rw [hother D' (fun e => hnd.1 (e ▸ hD'))]; exact this.2⟩) H1 F1 cs
    refine ⟨w', r1, r2, .head ?_ r3⟩
    have := step_collected (P := P) (fr := fr) (cs := cs) (w := w) (w' := w1) (d := { target := .collected D, args := #[] }) (r := D) (ds := marks Ds) (calls := []) (by rw [hm]; simp) (by rw [hd]; rfl) rfl hk
    simpa using this

/-! ### The program -/
/-- Every function with a body: its code names no memory, and it is not the runtime's counter of goroutines. -/
def progOK (P : Program) : Bool :=
  P.funcs.toList.all fun fn => match fn.body with
    | some c => codeOK P.globals.size c && !(fn.name == "runtime.NumGoroutine")
    | none => true

theorem progOK_spec (h : progOK P = true) {f : FuncId} {fn : Func} {c : Code} (hf : P.funcs[f]? = some fn) (hb : fn.body = some c) : codeOK P.globals.size c = true ∧ (fn.name == "runtime.NumGoroutine") = false := by
  have hm : fn ∈ P.funcs.toList := by rw [Array.mem_toList_iff]; exact Array.mem_of_getElem? hf
  have := List.all_eq_true.1 h fn hm
  rw [hb] at this
  simpa using this

/-- A contract that was proved elsewhere. -/
def ExtOK (P : Program) (W0 : World) (X : Ext) : Prop :=
  ∀ (f : FuncId) (c : List Value → AHeap → Option (Value × AHeap)), X f = some c → ∀ (args : List Value) (h : AHeap) (v : Value) (h' : AHeap), c args h = some (v, h') →
    ∀ (ρ : Rho) (w : World) (args' : Array Value), HRel P.globals.size ρ h w → Kept P.globals.size W0 w → LRel ρ args args'.toList → FnOK P P.globals.size ρ h w f args' v h'

theorem zip_fold {ρ : Rho} : ∀ {ps : List Tmp} {args args' : List Value} {ts ts' : List Value}, LRel ρ args args' → LRel ρ ts ts' →
    LRel ρ ((ps.zip args).foldl (fun t p => t.set p.1 p.2) ts) ((ps.zip args').foldl (fun t p => t.set p.1 p.2) ts') := by
  intro ps
  induction ps with
  | nil => intro args args' ts ts' _ ht; simpa using ht
  | cons p ps ih =>
    intro args args' ts ts' ha ht
    cases ha with
    | nil => simpa using ht
    | cons hv ha => simp only [List.zip_cons_cons, List.foldl_cons]; exact ih ha (ht.set hv p)

theorem zip_fold_arr (ps : List Tmp) (args : List Value) : ∀ (ts : Array Value), ((ps.zip args).foldl (fun (tmps : Array Value) (p : Tmp × Value) => tmps.setIfInBounds p.1 p.2) ts).toList = (ps.zip args).foldl (fun t p => t.set p.1 p.2) ts.toList := by
  induction ps generalizing args with
  | nil => intro ts; simp
  | cons p ps ih =>
    intro ts
    cases args with
    | nil => simp
    | cons a args => simp only [List.zip_cons_cons, List.foldl_cons]; rw [ih]; simp

theorem acall_sound {W0 : World} (hmix : P.follows .mixedOrders = true) (hP : progOK P = true) {X : Ext} (hX : ExtOK P W0 X) : ∀ n, CallOK P P.globals.size W0 (acall P X n) := by
  intro n
  induction n with
  | zero => intro g args h v h' hc; simp [acall] at hc
  | succ n ih =>
    intro g args h v h' hc ρ w args' H K ha
    cases g with
    | fn f =>
      simp only [acall] at hc
      split at hc
      · rename_i c hx
        exact hX f c hx args h v h' hc ρ w args' H K ha
      · split at hc
        · rename_i fn hfn
          split at hc
          · rename_i c hb
            obtain ⟨hcode, hname⟩ := progOK_spec hP hfn hb
            refine ⟨by simp only [callFunc, Sem.run_bind, run_program, Result.andThen_ok, hfn, hname, hb, Option.isNone_some, Bool.false_eq_true, if_false, Sem.run_pure], fun cs => ?_⟩
            -- the frame
            let a0 : Act := { tmps := args' ++ Array.replicate (fn.ntmps - args'.size) undef, defers := [] }
            let b0 : Frame := { (default : Frame) with fn := f, kind := .normal, roundOf := none }
            have hfr : Frame.enter P f args' .normal = b0.atR a0 [.code c] := by
              simp [Frame.enter, hfn, hb, Frame.atR, a0, b0]
            have hlen := ha.length
            have ht0 : LRel ρ (args ++ List.replicate (fn.ntmps - args.length) undef) a0.tmps.toList := by
              simp only [a0, Array.toList_append, Array.toList_replicate]
              rw [show args'.size = args.length by simpa using hlen.symm]
              exact ha.append (.replicate (.undef ρ) _)
            have hd0 : DefOK w.heap.size w a0.defers := ⟨[], rfl, List.nodup_nil, fun D hD => by simp at hD⟩
            -- how it ends
            have done : ∀ {s : St} {todo : List Item} {ρ1 : Rho} {a1 : Act} {w1 : World}, HRel P.globals.size ρ1 s.h w1 → LRel ρ1 s.t a1.tmps.toList → Fr ρ h w ρ1 s.h w1 → DefOK w.heap.size w1 a1.defers →
                Steps P (lone (Frame.enter P f args' .normal) cs w) (lone { b0.atR a1 todo with mode := .returning } cs w1) → aresults P fn.results.toList s.t s.h = some v → s.h = h' →
                ∃ (ρ' : Rho) (v' : Value) (w' : World) (fr : Frame), VRel ρ' v v' ∧ HRel P.globals.size ρ' h' w' ∧ Fr ρ h w ρ' h' w' ∧ Steps P (lone (Frame.enter P f args' .normal) cs w) (lone fr cs w') ∧ fr.fn = f ∧ fr.leaving P w' (.returned v') := by
              intro s todo ρ1 a1 w1 H1 t1 F1 d1 st hr hh
              subst hh
              obtain ⟨Ds, e1, e2, e3⟩ := d1
              obtain ⟨w2, H2, F2, st2⟩ := unwind_marks (P := P) Ds { b0.atR a1 todo with mode := .returning } rfl e1 e2 e3 H1 F1 cs
              obtain ⟨v', r1, r2⟩ := aresults_sound H2 t1 hr
              exact ⟨ρ1, v', w2, _, r2, H2, F2, st.trans st2, rfl, rfl, rfl, rfl, fn, hfn, r1⟩
            split at hc
            · rename_i s hs
              split at hc
              · rename_i v1 hv1
                simp only [Option.some.injEq, Prod.mk.injEq] at hc
                obtain ⟨rfl, hh⟩ := hc
                obtain ⟨ρ1, a1, w1, q1, q2, q3, q4, q5⟩ := aex_sound hmix ih n c hs hcode H K ht0 b0 (ro := none) trivial hd0 (Nat.le_refl _) [] cs
                exact done (todo := []) q1 q2 q3 q4 (by rw [hfr]; exact Steps.trans q5 (.one (stepR_end rfl))) hv1 hh
              · simp at hc
            · rename_i s hs
              split at hc
              · rename_i v1 hv1
                simp only [Option.some.injEq, Prod.mk.injEq] at hc
                obtain ⟨rfl, hh⟩ := hc
                obtain ⟨ρ1, a1, w1, q1, q2, q3, q4, ⟨k0, q5⟩⟩ := aex_sound hmix ih n c hs hcode H K ht0 b0 (ro := none) trivial hd0 (Nat.le_refl _) [] cs
                exact done (todo := .code .ret :: k0) q1 q2 q3 q4 (by rw [hfr]; exact Steps.trans q5 (.one (stepR_ret rfl))) hv1 hh
              · simp at hc
            · simp at hc
          · simp at hc
        · simp at hc
    | yield l =>
      simp only [acall] at hc
      split at hc
      · rename_i pd ts ps assign body hl
        split at hc
        · rename_i hlen
          split at hc
          · rename_i s hs
            split at hc
            · rename_i pd' ts' ps' as' bd' hl2
              split at hc
              · rename_i e s2 hs2
                split at hc
                · rename_i st2 pd2 ts2 ps2 as2 bd2 hl3
                  simp only [Option.some.injEq, Prod.mk.injEq] at hc
                  obtain ⟨rfl, rfl⟩ := hc
                  obtain ⟨p, hp⟩ := H.dom l _ hl rfl
                  obtain ⟨L, g1, g2⟩ := H.obj l _ p hl hp
                  have hal := ha.length
                  let tm : Array Value := (L.params.zip args').foldl (fun tmps (t, a) => tmps.setIfInBounds t a) L.tmps
                  have htm : LRel ρ ((ps.zip args).foldl (fun t p => t.set p.1 p.2) ts) tm.toList := by
                    have e1 : tm.toList = (ps.zip args'.toList).foldl (fun t p => t.set p.1 p.2) L.tmps.toList := by
                      have : tm = (L.params.toList.zip args'.toList).foldl (fun (tmps : Array Value) (p : Tmp × Value) => tmps.setIfInBounds p.1 p.2) L.tmps := by
                        simp only [tm]
                        rw [← Array.foldl_toList, Array.toList_zip]
                      rw [this, zip_fold_arr, g2.params]
                    rw [e1]; exact zip_fold ha g2.tmps
                  refine ⟨p, L.fn, tm, L.assign, L.body, hp, ?_, fun c cs => ?_⟩
                  · have hsz : args'.size = L.params.size := by
                      have e1 : L.params.toList.length = ps.length := by rw [g2.params]
                      simp only [Array.length_toList] at e1 hal; omega
                    simp only [Instr.yield, Instr.getLoop, getObj, Sem.run_bind, Sem.run]
                    rw [g1]
                    simp only [Sem.run, Result.andThen_ok, Sem.run_bind, Sem.run_pure]
                    rw [if_neg (by omega)]
                    rfl
                  · rw [g2.assign, g2.body]
                    let a0 : Act := { tmps := tm, defers := [] }
                    let b0 : Frame := { (default : Frame) with fn := L.fn, kind := .normal, roundOf := some p.blk }
                    have hfr : Frame.round p.blk L.fn tm assign body .normal = b0.atR a0 [.code assign, .beginRound, .code body] := by simp [Frame.round, Frame.atR, a0, b0]
                    have hd0 : DefOK w.heap.size w a0.defers := ⟨[], rfl, List.nodup_nil, fun D hD => by simp at hD⟩
                    obtain ⟨ρ1, a1, w1, q1, q2, q3, q4, q5⟩ := aex_sound hmix ih n assign hs g2.okA H K htm b0 (ro := some l) ⟨p, hp, rfl⟩ hd0 (Nat.le_refl _) [.beginRound, .code body] (c :: cs)
                    have hp1 := q3.ext _ _ hp
                    obtain ⟨L1, l1, l2, l3, l4, l5⟩ := setLoop q1 (st' := .busy) (pd' := pd') hl2 hp1
                    have hbr : (Instr.beginRound p.blk).run P w1 = .ok () { w1 with heap := w1.heap.setIfInBounds p.blk (.loop { L1 with state := .busy, pending := pd' }) } := by
                      have e2 : ({ L1 with state := .busy } : Loop) = { L1 with state := .busy, pending := pd' } := by rw [← l3]
                      simp only [Instr.beginRound, Instr.getLoop, getObj, setObj, Sem.run_bind, Sem.run]
                      rw [l1]
                      simp only [Sem.run, Result.andThen_ok, Sem.run_bind, Sem.run_pure, l2]
                      rw [l1]
                      simp only [← e2]
                      rfl
                    obtain ⟨ρ2, a2, w2, u1, u2, u3, u4, u5⟩ := aex_sound hmix ih n body hs2 g2.okB l4 (l5.kept q1 (q3.kept H K)) q2 b0 (ro := some l) ⟨p, hp1, rfl⟩ (q4.fr l5 q1) (by have h1 := q3.size; have h2 := l5.size; omega) [] (c :: cs)
                    have hp2 := u3.ext _ _ hp1
                    obtain ⟨L2, m1, m2, m3, m4, m5⟩ := setLoop u1 (st' := if (jumpOf e).isNone then .ready else .done) (pd' := jumpOf e) hl3 hp2
                    have her : (Instr.endRound p.blk (jumpOf e)).run P w2 = .ok (.bool (jumpOf e).isNone) { w2 with heap := w2.heap.setIfInBounds p.blk (.loop { L2 with state := if (jumpOf e).isNone then .ready else .done, pending := jumpOf e }) } := by
                      simp only [Instr.endRound, Instr.getLoop, getObj, setObj, Sem.run_bind, Sem.run]
                      rw [m1]
                      simp only [Sem.run, Result.andThen_ok, Sem.run_bind, Sem.run_pure]
                      rw [m1]
                      rfl
                    refine ⟨ρ2, .bool (jumpOf e).isNone, _, .bool _, m4, q3.trans (l5.trans (u3.trans m5)), ?_⟩
                    rw [hfr]
                    refine Steps.trans q5 (.head (stepR_beginRound rfl hbr) ?_)
                    cases e with
                    | normal => exact Steps.trans u5 (.one (stepR_round_end rfl rfl her))
                    | ret => obtain ⟨k0, u6⟩ := u5; exact u6.trans (.one (stepR_round_ret rfl rfl her))
                    | exit id => obtain ⟨k0, hx, u6⟩ := u5; exact u6.trans (.one (stepR_round_exit rfl rfl (by rw [hx]; rfl) her))
                · simp at hc
              · simp at hc
            · simp at hc
          · simp at hc
        · simp at hc
      · simp at hc

/-- **WHAT THE EXECUTOR ANSWERS, THE CALL RETURNS.** -/
theorem calls_of {W0 : World} (hmix : P.follows .mixedOrders = true) (hP : progOK P = true) {X : Ext} (hX : ExtOK P W0 X) {n : Nat} {f : FuncId} {args : List Value} {h h' : AHeap} {v : Value}
    (hc : acall P X n (.fn f) args h = some (v, h')) {ρ : Rho} {w : World} {args' : Array Value} (H : HRel P.globals.size ρ h w) (K : Kept P.globals.size W0 w) (ha : LRel ρ args args'.toList) :
    Calls P f args' w fun e w' => ∃ (ρ' : Rho) (v' : Value), e = .returned v' ∧ VRel ρ' v v' ∧ HRel P.globals.size ρ' h' w' ∧ Fr ρ h w ρ' h' w' := by
  obtain ⟨_, h2⟩ := acall_sound hmix hP hX n (.fn f) args h v h' hc ρ w args' H K ha
  intro cs
  obtain ⟨ρ', v', w', fr, r1, r2, r3, r4, r5, r6⟩ := h2 cs
  exact ⟨.returned v', w', fr, ⟨ρ', v', rfl, r1, r2, r3⟩, r4, r5, r6⟩
end Go.AM
