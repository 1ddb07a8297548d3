/-
  THE ABSTRACT EXECUTOR, KEPT IN TREES: code and calls.
-/
import Derived.Test.YtknpjlcgjlnfbaaGreatDoorAt2
set_option linter.unusedSimpArgs false
set_option linter.unusedVariables false
namespace Go.AMT
open Go Go.AM
noncomputable section
structure StT where
  t : Tr Value
  h : TH
/-! Operations that are met often, each told by a small term. -/
def kPure (r : Option Value) (th : TH) : Option (Value × TH) := match r with
  | some v => some (v, th)
  | none => none
def kMove (ea : Operand → Value) (th : TH) (x : Operand) : Option (Value × TH) := some (ea x, th)
def kLoad (P : Program) (ea : Operand → Value) (th : TH) (t : TypeId) (a : Operand) : Option (Value × TH) := kPure (aloadT P th t (ea a)) th
def kStore (P : Program) (ea : Operand → Value) (th : TH) (t : TypeId) (a x : Operand) : Option (Value × TH) := match astoreT P th t (ea a) (ea x) with
  | some h' => some (undef, h')
  | none => none
def pBin (P : Program) (ea : Operand → Value) (o : BinOp) (t : TypeId) (x y : Operand) : Option Value := match abin P o t (ea x) (ea y) with
  | some v => some v
  | none => anil P o t x y (ea x) (ea y)
def kBin (P : Program) (ea : Operand → Value) (th : TH) (o : BinOp) (t : TypeId) (x y : Operand) : Option (Value × TH) := kPure (pBin P ea o t x y) th
def kIdx (P : Program) (ea : Operand → Value) (th : TH) (t : TypeId) (x ix : Operand) : Option (Value × TH) := kPure (aindexAddr P t (ea x) (ea ix)) th
def kFld (P : Program) (ea : Operand → Value) (th : TH) (t : TypeId) (x : Operand) (f : Nat) : Option (Value × TH) := kPure (afieldAddr P t (ea x) f) th
def kSame (P : Program) (ea : Operand → Value) (th : TH) (op : Op) : Option (Value × TH) := kPure (apure P ea op) th
def kNil (ea : Operand → Value) (th : TH) (x : Operand) : Option (Value × TH) := kPure (match ea x with | .pointer (some a) => some (.pointer (some a)) | _ => none) th
def kExt (ea : Operand → Value) (th : TH) (x : Operand) (i : Nat) : Option (Value × TH) := kPure (match ea x with | .tuple vs => vs[i]? | _ => none) th
def kField (P : Program) (ea : Operand → Value) (th : TH) (t : TypeId) (x : Operand) (f : Nat) : Option (Value × TH) := kPure (afield P t (ea x) f) th
def kIndex (P : Program) (ea : Operand → Value) (th : TH) (t : TypeId) (x ix : Operand) : Option (Value × TH) := kPure (aindex P t (ea x) (ea ix)) th
def aopK (P : Program) (call : ACallT) (ea : Operand → Value) (th : TH) (op : Op) : Option (Value × TH) :=
  match op with
  | .move x => kMove ea th x
  | .assign x => kMove ea th x
  | .load t a => kLoad P ea th t a
  | .store t a x => kStore P ea th t a x
  | .binOp o t x y _ => kBin P ea th o t x y
  | .indexAddr t x ix => kIdx P ea th t x ix
  | .fieldAddr t x f => kFld P ea th t x f
  | .nilCheck x => kNil ea th x
  | .extract x i => kExt ea th x i
  | .field t x f => kField P ea th t x f
  | .index t x ix => kIndex P ea th t x ix
  | .call { callee := .value f, args, .. } => callValueT call (ea f) (args.toList.map ea) th
  | op => aopT P call ea th op
theorem kPure_eq {r : Option Value} {th : TH} {o : Option (Value × TH)} (h : o = none) : (match r with | some v => some (v, th) | none => o) = kPure r th := by
  cases r <;> simp [kPure, h]
theorem aopK_eq {P : Program} {call : ACallT} {ea : Operand → Value} {th : TH} {op : Op} : aopK P call ea th op = aopT P call ea th op := by
  cases op with
  | move x => rfl
  | assign x => rfl
  | load t a =>
    simp only [aopK, kLoad, kPure, aopT, apure, areadT, aeffT]
    rfl
  | store t a x => simp only [aopK, kStore, aopT, apure, areadT, aeffT]; rfl
  | binOp o t x y r =>
    simp only [aopK, kBin, kPure, pBin, aopT, apure, areadT, aeffT]
    cases abin P o t (ea x) (ea y) <;> rfl
  | indexAddr t x ix => simp only [aopK, kIdx, kPure, aopT, apure, areadT, aeffT]; rfl
  | fieldAddr t x f => simp only [aopK, kFld, kPure, aopT, apure, areadT, aeffT]; rfl
  | nilCheck x => simp only [aopK, kNil, kPure, aopT, apure, areadT, aeffT]; rfl
  | extract x i => simp only [aopK, kExt, kPure, aopT, apure, areadT, aeffT]; rfl
  | field t x f => simp only [aopK, kField, kPure, aopT, apure, areadT, aeffT]; rfl
  | index t x ix => simp only [aopK, kIndex, kPure, aopT, apure, areadT, aeffT]; rfl
  | call c =>
    obtain ⟨callee, args, tys⟩ := c
    cases callee <;> rfl
  | _ => rfl
def aopsT (P : Program) (call : ACallT) (nt : Nat) (ops : Array Oper) : List Oper → StT → Option StT
  | [], s => some s
  | o :: r, s =>
      if Region.wanted o (yieldedT nt ops s.t) then
        match aopK P call (evT nt s.t) s.h o.op with
        | some (v, h) => aopsT P call nt ops r ⟨putT s.t o.dst v, h⟩
        | none => none
      else aopsT P call nt ops r ⟨putT s.t o.dst undef, s.h⟩
def adrawT (P : Program) (call : ACallT) (nt : Nat) (ops : Array Oper) : List Nat → StT → List (Nat × TH) → List (Nat × TypeId × Value × Value) → Option StT
  | [], s, _, _ => some s
  | i :: r, s, hs, rs =>
    match ops[i]? with
    | none => none
    | some o =>
      if Region.wanted o (yieldedT nt ops s.t) then
        match kindOf P o.op with
        | 0 => match apure P (evT nt s.t) o.op with
          | some v => adrawT P call nt ops r ⟨putT s.t o.dst v, s.h⟩ hs rs
          | none => none
        | 1 => match o.op with
          | .load t a => match aloadT P s.h t (evT nt s.t a) with
            | some v =>
              if (hs.all fun p => !(floats P ops i).contains p.1 || (match aloadT P p.2 t (evT nt s.t a) with | some v' => same v v' | none => false)) then
                adrawT P call nt ops r ⟨putT s.t o.dst v, s.h⟩ hs (if (floats P ops i).isEmpty then rs else (i, t, evT nt s.t a, v) :: rs)
              else none
            | none => none
          | op => match areadT P (evT nt s.t) s.h op with
            | some v => if (floats P ops i).isEmpty then adrawT P call nt ops r ⟨putT s.t o.dst v, s.h⟩ hs rs else none
            | none => none
        | _ => match aopT P call (evT nt s.t) s.h o.op with
          | some (v, h) =>
            if (rs.all fun p => !(floats P ops p.1).contains i || (match aloadT P h p.2.1 p.2.2.1 with | some v' => same p.2.2.2 v' | none => false)) then
              adrawT P call nt ops r ⟨putT s.t o.dst v, h⟩ ((i, s.h) :: hs) rs
            else none
          | none => none
      else adrawT P call nt ops r ⟨putT s.t o.dst undef, s.h⟩ hs rs
/-- nc: the drawn regions that are not calm. -/
def aregionT (P : Program) (call : ACallT) (nt : Nat) (nc : Nat → Bool) (id : Nat) (ops : Array Oper) (draw : Bool) (s : StT) : Option StT :=
  match draw with
  | true => (match nc id with
    | true => if drawOK P ops then adrawT P call nt ops (List.range ops.size) s [] [] else none
    | false => aopsT P call nt ops ops.toList s)
  | false => aopsT P call nt ops ops.toList s
def aloopT (body : StT → Option (AExit × StT)) : Nat → StT → Option (AExit × StT)
  | 0, _ => none
  | n + 1, s => match body s with
    | some (.normal, s') => aloopT body n s'
    | r => r
def inRoundT (h : TH) : Option Nat → Bool
  | none => true
  | some l => match h.getO l with
    | some (.lp ..) => true
    | _ => false
def rangeT (P : Program) (call : ACallT) (nt : Nat) (ro : Option Nat) (f : Operand) (params : Array Tmp) (assign body : Code) (s : StT) : Option (AExit × StT) :=
  match evT nt s.t f with
  | .func (.func g) first captured =>
    if inRoundT s.h ro then
      match call (.fn g) (first.toList ++ [.func (.yield s.h.len) #[] #[]] ++ captured.toList) (s.h.pushO (.lp .ready none nt s.t params.toList assign body)) with
      | some (_, h) => match h.getO s.h.len with
        | some (.lp st pending n2 ts ps az bd) =>
          if st = .busy then none else
          match exitOf pending with
          | some e => some (e, ⟨s.t, h.putO s.h.len (.lp .exhausted pending n2 ts ps az bd)⟩)
          | none => none
        | _ => none
      | none => none
    else none
  | _ => none
def aexT (P : Program) (call : ACallT) (nt : Nat) (nc : Nat → Bool) (n : Nat) (ro : Option Nat) : Code → StT → Option (AExit × StT)
  | .skip, s => some (.normal, s)
  | .label _, s => some (.normal, s)
  | .region id ops draw, s => match aregionT P call nt nc id ops draw s with
    | some s' => some (.normal, s')
    | none => none
  | .seq a b, s => match aexT P call nt nc n ro a s with
    | some (.normal, s') => aexT P call nt nc n ro b s'
    | r => r
  | .cond c x y, s => match evT nt s.t c with
    | .bool true => aexT P call nt nc n ro x s
    | .bool false => aexT P call nt nc n ro y s
    | _ => none
  | .block id body, s => match aexT P call nt nc n ro body s with
    | some (.exit i, s') => if i = id then some (.normal, s') else some (.exit i, s')
    | r => r
  | .loop body, s => aloopT (aexT P call nt nc n ro body) n s
  | .exit id, s => some (.exit id, s)
  | .scope body, s => aexT P call nt nc n ro body s
  | .ret, s => some (.ret, s)
  | .rangeFunc f params assign body, s => rangeT P call nt ro f params assign body s
  | _, _ => none
def aresultT (P : Program) (nt : Nat) (t : Tr Value) (h : TH) : ResultVar → Option Value
  | .tmp i => some (atT nt t i)
  | .cell a ty => aloadT P h ty (atT nt t a)
def aresultsLT (P : Program) (nt : Nat) (t : Tr Value) (h : TH) : List ResultVar → Option (List Value)
  | [] => some []
  | r :: rs => match aresultT P nt t h r, aresultsLT P nt t h rs with
    | some v, some vs => some (v :: vs)
    | _, _ => none
def aresultsT (P : Program) (nt : Nat) (rs : List ResultVar) (t : Tr Value) (h : TH) : Option Value :=
  match aresultsLT P nt t h rs with
  | some [v] => some v
  | some vs => some (.tuple vs.toArray)
  | none => none
abbrev ExtT := FuncId → Option (List Value → TH → Option (Value × TH))
def setsT : List (Tmp × Value) → Tr Value → Tr Value
  | [], t => t
  | p :: ps, t => setsT ps (t.put undef p.1 p.2)
/-- nc: for each function, the drawn regions that are not calm. -/
def acallT (P : Program) (X : ExtT) (nc : Nat → Nat → Bool) : Nat → ACallT
  | 0 => fun _ _ _ => none
  | n + 1 => fun g args h =>
    match g with
    | .fn f =>
      match X f with
      | some c => c args h
      | none =>
        match P.funcs[f]? with
        | some fn => match fn.body with
          | some c => if args.length ≤ fn.ntmps then (match aexT P (acallT P X nc n) fn.ntmps (nc f) n none c ⟨Tr.ofL undef args, h⟩ with
            | some (.normal, s) => (match aresultsT P fn.ntmps fn.results.toList s.t s.h with | some v => some (v, s.h) | none => none)
            | some (.ret, s) => (match aresultsT P fn.ntmps fn.results.toList s.t s.h with | some v => some (v, s.h) | none => none)
            | _ => none) else none
          | none => none
        | none => none
    | .yield l =>
      match h.getO l with
      | some (.lp .ready _ nt ts ps assign body) =>
        if args.length = ps.length then
          match aexT P (acallT P X nc n) nt (fun _ => true) n (some l) assign ⟨setsT (ps.zip args) ts, h⟩ with
          | some (.normal, s) => match s.h.getO l with
            | some (.lp .ready pd n2 ts' ps' az' bd') =>
              match aexT P (acallT P X nc n) nt (fun _ => true) n (some l) body ⟨s.t, s.h.putO l (.lp .busy pd n2 ts' ps' az' bd')⟩ with
              | some (e, s2) => match s2.h.getO l with
                | some (.lp _ _ n3 ts2 ps2 az2 bd2) => some (.bool (jumpOf e).isNone, s2.h.putO l (.lp (if (jumpOf e).isNone then .ready else .done) (jumpOf e) n3 ts2 ps2 az2 bd2))
                | _ => none
              | none => none
            | _ => none
          | _ => none
        else none
      | _ => none
end

/-! ### They are those over lists -/
variable {P : Program} {callT : ACallT} {call : ACall} {nt : Nat}
/-- A state over trees stands for one over lists. -/
def RSt (nt : Nat) (s : StT) (s' : St) : Prop := RS nt s.t s'.t ∧ s.h.toL = s'.h
theorem RSt.mk' {s : StT} {t : List Value} (r : RS nt s.t t) : RSt nt s ⟨t, s.h.toL⟩ := ⟨r, rfl⟩

theorem aopsT_t (hc : CallT callT call) {ops : Array Oper} : ∀ (l : List Oper) {s s1 : StT} {s' : St}, RSt nt s s' → aopsT P callT nt ops l s = some s1 → ∃ s1', aopsL P call ops l s' = some s1' ∧ RSt nt s1 s1' := by
  intro l
  induction l with
  | nil =>
    intro s s1 s' r h
    simp only [aopsT, Option.some.injEq] at h; subst h
    exact ⟨s', rfl, r⟩
  | cons o l ih =>
    intro s s1 s' r h
    obtain ⟨t', h'⟩ := s'
    obtain ⟨r1, r2⟩ := r
    simp only at r1 r2
    subst r2
    simp only [aopsT, aopK_eq] at h
    simp only [aopsL]
    rw [r1.yielded, r1.ev] at h
    split at h
    · rename_i hw
      rw [if_pos hw]
      split at h
      · rename_i v h2 hv
        rw [aop_t hc hv]
        exact ih (s := ⟨putT s.t o.dst v, h2⟩) (s' := ⟨aput t' o.dst v, h2.toL⟩) ⟨r1.put _ _, rfl⟩ h
      · simp at h
    · rename_i hw
      rw [if_neg hw]
      exact ih (s := ⟨putT s.t o.dst undef, s.h⟩) (s' := ⟨aput t' o.dst undef, s.h.toL⟩) ⟨r1.put _ _, rfl⟩ h

theorem adrawT_t (hc : CallT callT call) {ops : Array Oper} : ∀ (l : List Nat) {s s1 : StT} {s' : St} {hs : List (Nat × TH)} {rs : List (Nat × TypeId × Value × Value)}, RSt nt s s' → adrawT P callT nt ops l s hs rs = some s1 →
    ∃ s1', adraw P call ops l s' (hs.map fun p => (p.1, p.2.toL)) rs = some s1' ∧ RSt nt s1 s1' := by
  intro l
  induction l with
  | nil =>
    intro s s1 s' hs rs r h
    simp only [adrawT, Option.some.injEq] at h; subst h
    exact ⟨s', rfl, r⟩
  | cons i l ih =>
    intro s s1 s' hs rs r h
    obtain ⟨t', h'⟩ := s'
    obtain ⟨r1, r2⟩ := r
    simp only at r1 r2
    subst r2
    simp only [adrawT] at h
    simp only [adraw]
    rw [r1.yielded, r1.ev] at h
    cases ho : ops[i]? with
    | none => rw [ho] at h; simp at h
    | some o =>
      rw [ho] at h
      simp only at h ⊢
      by_cases hw : Region.wanted o (ayielded ops t') = true
      · rw [if_pos hw] at h ⊢
        rcases kindOf_le (P := P) o.op with hk | hk | hk
        · rw [hk] at h ⊢
          simp only at h ⊢
          cases hv : apure P (aeval t') o.op with
          | none => rw [hv] at h; simp at h
          | some v =>
            rw [hv] at h
            exact ih (s := ⟨putT s.t o.dst v, s.h⟩) (s' := ⟨aput t' o.dst v, s.h.toL⟩) ⟨r1.put _ _, rfl⟩ h
        · rw [hk] at h ⊢
          simp only at h ⊢
          by_cases hl : ∃ ty a, o.op = .load ty a
          · obtain ⟨ty, a, hop⟩ := hl
            rw [hop] at h ⊢
            simp only [aload_t] at h ⊢
            cases hv : aload P s.h.toL ty (aeval t' a) with
            | none => rw [hv] at h; simp at h
            | some v =>
              rw [hv] at h
              simp only at h ⊢
              split at h
              · rename_i hcond
                rw [if_pos]
                · exact ih (s := ⟨putT s.t o.dst v, s.h⟩) (s' := ⟨aput t' o.dst v, s.h.toL⟩) ⟨r1.put _ _, rfl⟩ h
                · rw [List.all_map]
                  exact hcond
              · simp at h
          · have e1 : ∀ {α : Type} (f : TypeId → Operand → α) (g : Op → α), (match o.op with | .load ty a => f ty a | op => g op) = g o.op := by
              intro α f g
              cases hop : o.op with
              | load ty a => exact absurd ⟨ty, a, hop⟩ hl
              | _ => rfl
            cases hv : aread P (aeval t') s.h.toL o.op with
            | none =>
              exfalso
              rw [← aread_t] at hv
              cases hop : o.op with
              | load ty a => exact hl ⟨ty, a, hop⟩
              | _ => rw [hop] at h hv; simp only [hv] at h; simp at h
            | some v =>
              have hv' := hv
              rw [← aread_t] at hv'
              have hh : (if (floats P ops i).isEmpty = true then adrawT P callT nt ops l ⟨putT s.t o.dst v, s.h⟩ hs rs else none) = some s1 := by
                cases hop : o.op with
                | load ty a => exact absurd ⟨ty, a, hop⟩ hl
                | _ => rw [hop] at h hv'; simp only [hv'] at h; exact h
              split at hh
              · rename_i hcond
                obtain ⟨s1', g1, g2⟩ := ih (s := ⟨putT s.t o.dst v, s.h⟩) (s' := ⟨aput t' o.dst v, s.h.toL⟩) ⟨r1.put _ _, rfl⟩ hh
                refine ⟨s1', ?_, g2⟩
                cases hop : o.op with
                | load ty a => exact absurd ⟨ty, a, hop⟩ hl
                | _ => rw [hop] at hv; simp only [hv, hcond, if_true]; exact g1
              · simp at hh
        · rw [hk] at h ⊢
          simp only [aload_t] at h ⊢
          cases hv : aopT P callT (aeval t') s.h o.op with
          | none => rw [hv] at h; simp at h
          | some p =>
            obtain ⟨v, h2⟩ := p
            rw [hv] at h
            rw [aop_t hc hv]
            simp only at h ⊢
            split at h
            · rename_i hcond
              rw [if_pos]
              · exact ih (hs := (i, s.h) :: hs) (rs := rs) (s := ⟨putT s.t o.dst v, h2⟩) (s' := ⟨aput t' o.dst v, h2.toL⟩) ⟨r1.put _ _, rfl⟩ h
              · exact hcond
            · simp at h
      · rw [if_neg hw] at h ⊢
        exact ih (s := ⟨putT s.t o.dst undef, s.h⟩) (s' := ⟨aput t' o.dst undef, s.h.toL⟩) ⟨r1.put _ _, rfl⟩ h

/-- Drawn regions are calm but where nc says that they may not be. -/
def calmBut (P : Program) (nc : Nat → Bool) : Code → Bool
  | .region id ops draw => match draw with
    | true => (match nc id with
      | true => true
      | false => calm P ops)
    | false => true
  | .seq a b => calmBut P nc a && calmBut P nc b
  | .cond _ a b => calmBut P nc a && calmBut P nc b
  | .block _ a | .loop a | .scope a => calmBut P nc a
  | _ => true
theorem aregionT_t (hc : CallT callT call) {nc : Nat → Bool} {id : Nat} {ops : Array Oper} {draw : Bool} (hcalm : calmBut P nc (.region id ops draw) = true) {s s1 : StT} {s' : St} (r : RSt nt s s') (h : aregionT P callT nt nc id ops draw s = some s1) :
    ∃ s1', aregion P call ops draw s' = some s1' ∧ RSt nt s1 s1' := by
  have text : ∀ {s1 : StT}, aopsT P callT nt ops ops.toList s = some s1 → ∃ s1', aops P call ops (List.range ops.size) s' = some s1' ∧ RSt nt s1 s1' := by
    intro s1 h
    obtain ⟨s1', g1, g2⟩ := aopsT_t hc _ r h
    refine ⟨s1', ?_, g2⟩
    have e1 := aops_eq (P := P) (call := call) (all := ops) ops.size 0 s' (by simp)
    rw [List.drop_zero, g1, ← List.range_eq_range'] at e1
    exact e1
  unfold aregionT at h
  unfold aregion
  cases draw with
  | false => exact text h
  | true =>
    simp only [if_true] at h ⊢
    simp only [calmBut] at hcalm
    cases hn : nc id with
    | true =>
      rw [hn] at h
      simp only at h
      split at h
      · rename_i hD
        rw [if_pos hD]
        obtain ⟨s1', g1, g2⟩ := adrawT_t hc _ r h
        exact ⟨s1', by simpa using g1, g2⟩
      · simp at h
    | false =>
      rw [hn] at h hcalm
      simp only at h hcalm
      simp only [calm, Bool.and_eq_true] at hcalm
      rw [if_pos hcalm.1]
      obtain ⟨s1', g1, g2⟩ := text h
      refine ⟨s1', ?_, g2⟩
      rw [List.range_eq_range'] at g1 ⊢
      exact calm_draw (fun i hi => List.all_eq_true.1 hcalm.2 i (by simpa using hi)) ops.size 0 (hs := []) (rs := []) (by simp) g1 (by simp) (by simp)
end Go.AMT
