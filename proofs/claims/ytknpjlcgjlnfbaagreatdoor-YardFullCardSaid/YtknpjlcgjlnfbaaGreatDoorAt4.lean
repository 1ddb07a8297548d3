/-
  THE ABSTRACT EXECUTOR, KEPT IN TREES: what it runs, the executor over lists runs.
-/
import Derived.Test.YtknpjlcgjlnfbaaGreatDoorAt3
set_option linter.unusedSimpArgs false
set_option linter.unusedVariables false
namespace Go.AMT
open Go Go.AM
variable {P : Program} {callT : ACallT} {call : ACall} {nt : Nat}

theorem aloopT_t {bT : StT → Option (AExit × StT)} {b : St → Option (AExit × St)} (hb : ∀ {s e s1 s'}, RSt nt s s' → bT s = some (e, s1) → ∃ s1', b s' = some (e, s1') ∧ RSt nt s1 s1') : ∀ (n : Nat) {s : StT} {e : AExit} {s1 : StT} {s' : St}, RSt nt s s' → aloopT bT n s = some (e, s1) → ∃ s1', aloop b n s' = some (e, s1') ∧ RSt nt s1 s1' := by
  intro n
  induction n with
  | zero => intro s e s1 s' r h; simp [aloopT] at h
  | succ n ih =>
    intro s e s1 s' r h
    simp only [aloopT] at h
    simp only [aloop]
    cases hbs : bT s with
    | none => rw [hbs] at h; simp at h
    | some p =>
      obtain ⟨e2, s2⟩ := p
      obtain ⟨s2', g1, g2⟩ := hb r hbs
      rw [hbs] at h
      rw [g1]
      cases e2 with
      | normal => exact ih g2 h
      | exit id =>
        simp only [Option.some.injEq, Prod.mk.injEq] at h
        obtain ⟨rfl, rfl⟩ := h
        exact ⟨s2', rfl, g2⟩
      | ret =>
        simp only [Option.some.injEq, Prod.mk.injEq] at h
        obtain ⟨rfl, rfl⟩ := h
        exact ⟨s2', rfl, g2⟩
theorem inRound_t {h : TH} {ro : Option Nat} (hr : inRoundT h ro = true) : inRound h.toL ro = true := by
  cases ro with
  | none => rfl
  | some l =>
    unfold inRoundT at hr
    unfold inRound
    simp only at hr ⊢
    rw [TH.toL_get, TH.get_getO]
    split at hr
    · rename_i hl; rw [hl]; rfl
    · simp at hr
theorem aexT_t (hc : CallT callT call) {nc : Nat → Bool} {n : Nat} {ro : Option Nat} : ∀ (c : Code) {s : StT} {e : AExit} {s1 : StT} {s' : St}, calmBut P nc c = true → RSt nt s s' → aexT P callT nt nc n ro c s = some (e, s1) →
    ∃ s1', aex P call n ro c s' = some (e, s1') ∧ RSt nt s1 s1' := by
  intro c
  induction c with
  | skip => intro s e s1 s' _ r h; simp only [aexT, Option.some.injEq, Prod.mk.injEq] at h; obtain ⟨rfl, rfl⟩ := h; exact ⟨s', rfl, r⟩
  | label _ => intro s e s1 s' _ r h; simp only [aexT, Option.some.injEq, Prod.mk.injEq] at h; obtain ⟨rfl, rfl⟩ := h; exact ⟨s', rfl, r⟩
  | exit id => intro s e s1 s' _ r h; simp only [aexT, Option.some.injEq, Prod.mk.injEq] at h; obtain ⟨rfl, rfl⟩ := h; exact ⟨s', rfl, r⟩
  | ret => intro s e s1 s' _ r h; simp only [aexT, Option.some.injEq, Prod.mk.injEq] at h; obtain ⟨rfl, rfl⟩ := h; exact ⟨s', rfl, r⟩
  | region id ops draw =>
    intro s e s1 s' hk r h
    simp only [aexT] at h
    simp only [aex]
    cases hr : aregionT P callT nt nc id ops draw s with
    | none => rw [hr] at h; simp at h
    | some s2 =>
      rw [hr] at h
      simp only [Option.some.injEq, Prod.mk.injEq] at h
      obtain ⟨rfl, rfl⟩ := h
      obtain ⟨s2', g1, g2⟩ := aregionT_t hc hk r hr
      rw [g1]
      exact ⟨s2', rfl, g2⟩
  | seq a b iha ihb =>
    intro s e s1 s' hk r h
    simp only [calmBut, Bool.and_eq_true] at hk
    simp only [aexT] at h
    simp only [aex]
    cases ha : aexT P callT nt nc n ro a s with
    | none => rw [ha] at h; simp at h
    | some p =>
      obtain ⟨e2, s2⟩ := p
      obtain ⟨s2', g1, g2⟩ := iha hk.1 r ha
      rw [ha] at h
      rw [g1]
      cases e2 with
      | normal => exact ihb hk.2 g2 h
      | exit id =>
        simp only [Option.some.injEq, Prod.mk.injEq] at h
        obtain ⟨rfl, rfl⟩ := h
        exact ⟨s2', rfl, g2⟩
      | ret =>
        simp only [Option.some.injEq, Prod.mk.injEq] at h
        obtain ⟨rfl, rfl⟩ := h
        exact ⟨s2', rfl, g2⟩
  | cond c x y ihx ihy =>
    intro s e s1 s' hk r h
    simp only [calmBut, Bool.and_eq_true] at hk
    simp only [aexT] at h
    simp only [aex]
    rw [r.1.ev] at h
    split at h
    · rename_i hv; rw [hv]; exact ihx hk.1 r h
    · rename_i hv; rw [hv]; exact ihy hk.2 r h
    · simp at h
  | block id body ih =>
    intro s e s1 s' hk r h
    simp only [calmBut] at hk
    simp only [aexT] at h
    simp only [aex]
    cases hb : aexT P callT nt nc n ro body s with
    | none => rw [hb] at h; simp at h
    | some p =>
      obtain ⟨e2, s2⟩ := p
      obtain ⟨s2', g1, g2⟩ := ih hk r hb
      rw [hb] at h
      rw [g1]
      cases e2 with
      | normal =>
        simp only [Option.some.injEq, Prod.mk.injEq] at h
        obtain ⟨rfl, rfl⟩ := h
        exact ⟨s2', rfl, g2⟩
      | exit i =>
        simp only at h ⊢
        split at h
        · rename_i hi
          simp only [Option.some.injEq, Prod.mk.injEq] at h
          obtain ⟨rfl, rfl⟩ := h
          rw [if_pos hi]
          exact ⟨s2', rfl, g2⟩
        · rename_i hi
          simp only [Option.some.injEq, Prod.mk.injEq] at h
          obtain ⟨rfl, rfl⟩ := h
          rw [if_neg hi]
          exact ⟨s2', rfl, g2⟩
      | ret =>
        simp only [Option.some.injEq, Prod.mk.injEq] at h
        obtain ⟨rfl, rfl⟩ := h
        exact ⟨s2', rfl, g2⟩
  | loop body ih =>
    intro s e s1 s' hk r h
    simp only [calmBut] at hk
    simp only [aexT] at h
    simp only [aex]
    exact aloopT_t (fun r' h' => ih hk r' h') n r h
  | scope body ih =>
    intro s e s1 s' hk r h
    simp only [calmBut] at hk
    simp only [aexT] at h
    simp only [aex]
    exact ih hk r h
  | rangeFunc f params assign body iha ihb =>
    intro s e s1 s' hk r h
    obtain ⟨t', h'⟩ := s'
    obtain ⟨r1, r2⟩ := r
    simp only at r1 r2
    subst r2
    simp only [aexT, rangeT] at h
    simp only [aex]
    rw [r1.ev] at h
    split at h
    · rename_i g first captured hf
      rw [hf]
      simp only
      split at h
      · rename_i hr
        rw [if_pos (inRound_t hr)]
        split at h
        · rename_i u h2 hcall
          have hcl := hc _ _ _ _ _ hcall
          rw [TH.toL_pushO] at hcl
          simp only [OT.toA, r1.list] at hcl
          rw [TH.toL_length]
          rw [hcl]
          simp only
          split at h
          · rename_i st pending n2 ts ps az bd hl
            have hl2 : h2.toL[s.h.len]? = some (.loop st pending (slotsL n2 ts) ps az bd) := by
              rw [TH.toL_get, TH.get_getO, hl]; rfl
            rw [hl2]
            simp only
            split at h
            · simp at h
            · rename_i hst
              rw [if_neg hst]
              split at h
              · rename_i ex hex
                rw [hex]
                simp only [Option.some.injEq, Prod.mk.injEq] at h
                obtain ⟨rfl, rfl⟩ := h
                refine ⟨_, rfl, r1, ?_⟩
                rw [TH.toL_putO]; rfl
              · simp at h
          · simp at h
        · simp at h
      · simp at h
    · simp at h
  | _ => intro s e s1 s' _ r h; simp [aexT] at h

theorem aresultsT_t {rs : List ResultVar} {tr : Tr Value} {t : List Value} (r : RS nt tr t) (h : TH) : aresultsT P nt rs tr h = aresults P rs t h.toL := by
  have e1 : ∀ x, aresultT P nt tr h x = aresult P t h.toL x := by
    intro x
    cases x with
    | tmp i => simp only [aresultT, aresult]; rw [r.at]
    | cell a ty => simp only [aresultT, aresult]; rw [r.at, aload_t]
  have e2 : ∀ l, aresultsLT P nt tr h l = aresultsL P t h.toL l := by
    intro l
    induction l with
    | nil => rfl
    | cons x l ih =>
      simp only [aresultsLT, aresultsL, e1, ih]
      rfl
  unfold aresultsT aresults
  rw [e2]
  rfl

theorem setsT_t : ∀ (ps : List (Tmp × Value)) {tr : Tr Value} {t : List Value}, RS nt tr t → RS nt (setsT ps tr) (ps.foldl (fun t p => t.set p.1 p.2) t) := by
  intro ps
  induction ps with
  | nil => intro tr t r; exact r
  | cons p ps ih => intro tr t r; exact ih (r.set p.1 p.2)

/-- Contracts over trees, as contracts over lists. -/
def ExtTOK (XT : ExtT) (X : Ext) : Prop := ∀ f, match XT f with
  | some c => ∃ c', X f = some c' ∧ ∀ args th v th', c args th = some (v, th') → c' args th.toL = some (v, th'.toL)
  | none => X f = none
/-- All the program's drawn regions are calm but those of nc. -/
def calmAll (P : Program) (nc : Nat → Nat → Bool) : Bool := (List.range P.funcs.size).all fun f => match P.funcs[f]? with
  | some fn => match fn.body with
    | some c => calmBut P (nc f) c
    | none => true
  | none => true
theorem calmAll_spec {nc : Nat → Nat → Bool} (h : calmAll P nc = true) {f : Nat} {fn : Func} {c : Code} (hf : P.funcs[f]? = some fn) (hb : fn.body = some c) : calmBut P (nc f) c = true := by
  have hlt : f < P.funcs.size := by
    rcases Nat.lt_or_ge f P.funcs.size with e | e
    · exact e
    · rw [Array.getElem?_eq_none e] at hf; simp at hf
  have := List.all_eq_true.1 h f (List.mem_range.2 hlt)
  rw [hf] at this
  simp only [hb] at this
  exact this
theorem calmBut_all : ∀ (c : Code), calmBut P (fun _ => true) c = true := by
  intro c
  induction c with
  | region id ops draw => cases draw <;> rfl
  | seq a b iha ihb => simp [calmBut, iha, ihb]
  | cond c x y ihx ihy => simp [calmBut, ihx, ihy]
  | block id body ih => simpa [calmBut] using ih
  | loop body ih => simpa [calmBut] using ih
  | scope body ih => simpa [calmBut] using ih
  | _ => rfl

theorem acallT_t {XT : ExtT} {X : Ext} (hX : ExtTOK XT X) {nc : Nat → Nat → Bool} (hN : calmAll P nc = true) : ∀ n, CallT (acallT P XT nc n) (acall P X n) := by
  intro n
  induction n with
  | zero => intro g args th v th' h; simp [acallT] at h
  | succ n ih =>
    intro g args th v th' h
    cases g with
    | fn f =>
      simp only [acallT] at h
      simp only [acall]
      have hx := hX f
      cases hxf : XT f with
      | some c =>
        rw [hxf] at h hx
        simp only at h hx
        obtain ⟨c', x1, x2⟩ := hx
        rw [x1]
        exact x2 _ _ _ _ h
      | none =>
        rw [hxf] at h hx
        simp only at h hx
        rw [hx]
        simp only
        cases hf : P.funcs[f]? with
        | none => rw [hf] at h; simp at h
        | some fn =>
          rw [hf] at h
          simp only at h ⊢
          cases hb : fn.body with
          | none => rw [hb] at h; simp at h
          | some c =>
            rw [hb] at h
            simp only at h ⊢
            split at h
            · rename_i hlen
              cases he : aexT P (acallT P XT nc n) fn.ntmps (nc f) n none c ⟨Tr.ofL undef args, th⟩ with
              | none => rw [he] at h; simp at h
              | some p =>
                obtain ⟨e, s1⟩ := p
                obtain ⟨s1', g1, g2⟩ := aexT_t ih c (calmAll_spec hN hf hb) (s' := ⟨args ++ List.replicate (fn.ntmps - args.length) undef, th.toL⟩) ⟨RS.start _ _ hlen, rfl⟩ he
                obtain ⟨t1, h1⟩ := s1'
                obtain ⟨q1, q2⟩ := g2
                simp only at q1 q2
                subst q2
                rw [he] at h
                rw [g1]
                cases e with
                | exit id => simp at h
                | normal =>
                  simp only at h ⊢
                  rw [aresultsT_t q1] at h
                  cases hr : aresults P fn.results.toList t1 s1.h.toL with
                  | none => rw [hr] at h; simp at h
                  | some u =>
                    rw [hr] at h
                    simp only [Option.some.injEq, Prod.mk.injEq] at h
                    obtain ⟨rfl, rfl⟩ := h
                    rfl
                | ret =>
                  simp only at h ⊢
                  rw [aresultsT_t q1] at h
                  cases hr : aresults P fn.results.toList t1 s1.h.toL with
                  | none => rw [hr] at h; simp at h
                  | some u =>
                    rw [hr] at h
                    simp only [Option.some.injEq, Prod.mk.injEq] at h
                    obtain ⟨rfl, rfl⟩ := h
                    rfl
            · simp at h
    | yield l =>
      simp only [acallT] at h
      simp only [acall]
      rw [TH.toL_get, TH.get_getO]
      cases h0 : th.getO l with
      | none => rw [h0] at h; simp at h
      | some x =>
        rw [h0] at h
        cases x with
        | o x => simp at h
        | lp st pd0 nt ts ps assign body =>
          cases st <;> (try (simp at h; done))
          simp only [Option.map_some, OT.toA] at h ⊢
          split at h
          · rename_i hlen
            rw [if_pos hlen]
            cases he : aexT P (acallT P XT nc n) nt (fun _ => true) n (some l) assign ⟨setsT (ps.zip args) ts, th⟩ with
            | none => rw [he] at h; simp at h
            | some p =>
              obtain ⟨e, s1⟩ := p
              rw [he] at h
              obtain ⟨s1', g1, g2⟩ := aexT_t ih assign (calmBut_all assign) (s' := ⟨(ps.zip args).foldl (fun t p => t.set p.1 p.2) (slotsL nt ts), th.toL⟩) ⟨setsT_t _ (RS.of nt ts), rfl⟩ he
              obtain ⟨t1, h1⟩ := s1'
              obtain ⟨q1, q2⟩ := g2
              simp only at q1 q2
              subst q2
              rw [g1]
              cases e <;> (try (simp at h; done))
              simp only at h ⊢
              rw [TH.toL_get, TH.get_getO]
              cases h2 : s1.h.getO l with
              | none => rw [h2] at h; simp at h
              | some x2 =>
                rw [h2] at h
                cases x2 with
                | o x2 => simp at h
                | lp st2 pd n2 ts' ps' az' bd' =>
                  cases st2 <;> (try (simp at h; done))
                  simp only [Option.map_some, OT.toA] at h ⊢
                  cases he2 : aexT P (acallT P XT nc n) nt (fun _ => true) n (some l) body ⟨s1.t, s1.h.putO l (.lp .busy pd n2 ts' ps' az' bd')⟩ with
                  | none => rw [he2] at h; simp at h
                  | some p2 =>
                    obtain ⟨e2, s2⟩ := p2
                    rw [he2] at h
                    obtain ⟨s2', k1, k2⟩ := aexT_t ih body (calmBut_all body) (s := ⟨s1.t, s1.h.putO l (.lp .busy pd n2 ts' ps' az' bd')⟩) (s' := ⟨t1, s1.h.toL.set l (.loop .busy pd (slotsL n2 ts') ps' az' bd')⟩) ⟨q1, by rw [TH.toL_putO]; rfl⟩ he2
                    obtain ⟨t2, h3⟩ := s2'
                    obtain ⟨q3, q4⟩ := k2
                    simp only at q3 q4
                    subst q4
                    rw [k1]
                    simp only at h ⊢
                    rw [TH.toL_get, TH.get_getO]
                    cases h4 : s2.h.getO l with
                    | none => rw [h4] at h; simp at h
                    | some x3 =>
                      rw [h4] at h
                      cases x3 with
                      | o x3 => simp at h
                      | lp st3 pd3 n3 ts3 ps3 az3 bd3 =>
                        simp only [Option.some.injEq, Prod.mk.injEq, Option.map_some, OT.toA] at h ⊢
                        obtain ⟨rfl, rfl⟩ := h
                        refine ⟨rfl, ?_⟩
                        rw [TH.toL_putO]; rfl
          · simp at h
end Go.AMT
