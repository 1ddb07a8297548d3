/-
  THE ABSTRACT EXECUTOR: regions, calls, code.
-/
import Derived.Test.YtknpjlcgjlnfbaaGreatDoorAm10
import Derived.Orders
set_option linter.unusedSimpArgs false
set_option linter.unusedVariables false
namespace Go.AM
variable {P : Program} {G : Nat}

/-- The first blocks of the world are as they were at the start. -/
def Kept (G : Nat) (W0 w : World) : Prop := ∀ c, c < G → w.heap[c]? = W0.heap[c]?

theorem Fr.kept {ρ ρ' : Rho} {h h' : AHeap} {w w' W0 : World} (F : Fr ρ h w ρ' h' w') (H : HRel G ρ h w) (K : Kept G W0 w) : Kept G W0 w' := by
  intro c hc
  rw [F.keep c (Nat.lt_of_lt_of_le hc H.gsz) (fun b o p hb ho hp e => by have := H.gown b o p hb hp ho; omega)]
  exact K c hc

theorem LRel.eval {ρ : Rho} {h : AHeap} {w : World} (H : HRel G ρ h w) {t : List Value} {a : Act} (ht : LRel ρ t a.tmps.toList) : ∀ x, opndOK G x = true → VRel ρ (aeval t x) (a.eval x) := by
  intro x hx
  cases x with
  | tmp i =>
    have := ht.getD i
    simpa [aeval, Act.eval] using this
  | const v => exact constOK_refl ρ hx
  | global g =>
    obtain ⟨en, he⟩ := H.glob g (by simpa [opndOK] using hx)
    have := VRel.ptr (ρ := ρ) (o := 0) he
    simpa [aeval, Act.eval] using this
  | func f => exact .func f rfl rfl (fun i h => by simp at h) (fun i h => by simp at h)

theorem LRel.put {ρ : Rho} {t : List Value} {a : Act} {v v' : Value} (ht : LRel ρ t a.tmps.toList) (hv : VRel ρ v v') (d : Option Tmp) : LRel ρ (aput t d v) (a.put d v').tmps.toList := by
  cases d with
  | none => exact ht
  | some d => simpa [aput, Act.put] using ht.set hv d

theorem put_defers (a : Act) (d : Option Tmp) (v : Value) : (a.put d v).defers = a.defers := by cases d <;> rfl

theorem yielded_eq {ρ : Rho} {t : List Value} {a : Act} (ht : LRel ρ t a.tmps.toList) (ops : Array Oper) : yielded ops a.tmps = ayielded ops t := by
  funext j
  unfold yielded ayielded
  cases hd : (ops[j]?).bind (·.dst) with
  | none => rfl
  | some d =>
    simp only [Option.bind_some]
    cases hv : t[d]? with
    | none =>
      have := ht.none? hv
      have e : a.tmps[d]? = none := by simpa using this
      rw [e]
    | some v =>
      obtain ⟨v', h1, h2⟩ := ht.get? hv
      have e : a.tmps[d]? = some v' := by simpa using h1
      rw [e]
      cases h2 <;> rfl

/-- A call of a function, as it is entered and as it ends. -/
def FnOK (P : Program) (G : Nat) (ρ : Rho) (h : AHeap) (w : World) (f : FuncId) (args' : Array Value) (v : Value) (h' : AHeap) : Prop :=
  (callFunc f args').run P w = .ok (.enter f args') w ∧
  ∀ cs, ∃ (ρ' : Rho) (v' : Value) (w' : World) (fr : Frame), VRel ρ' v v' ∧ HRel G ρ' h' w' ∧ Fr ρ h w ρ' h' w' ∧
    Steps P (lone (Frame.enter P f args' .normal) cs w) (lone fr cs w') ∧ fr.fn = f ∧ fr.leaving P w' (.returned v')

/-- A call of yield: a round. -/
def YOK (P : Program) (G : Nat) (ρ : Rho) (h : AHeap) (w : World) (l : Nat) (args' : Array Value) (v : Value) (h' : AHeap) : Prop :=
  ∃ (p : Pl) (fn : FuncId) (tmps : Array Value) (as bd : Code), ρ l = some p ∧ (Instr.yield p.blk args').run P w = .ok (.round p.blk fn tmps as bd) w ∧
  ∀ c cs, ∃ (ρ' : Rho) (v' : Value) (w' : World), VRel ρ' v v' ∧ HRel G ρ' h' w' ∧ Fr ρ h w ρ' h' w' ∧
    Steps P (lone (Frame.round p.blk fn tmps as bd .normal) (c :: cs) w) (lone (c.finish v') cs w')

def CallOK (P : Program) (G : Nat) (W0 : World) (call : ACall) : Prop :=
  ∀ (g : Tg) (args : List Value) (h : AHeap) (v : Value) (h' : AHeap), call g args h = some (v, h') →
    ∀ (ρ : Rho) (w : World) (args' : Array Value), HRel G ρ h w → Kept G W0 w → LRel ρ args args'.toList →
      match g with
      | .fn f => FnOK P G ρ h w f args' v h'
      | .yield l => YOK P G ρ h w l args' v h'

theorem method_run {t : TypeId} {name : String} {f : FuncId} (hm : methodOf P t name = some f) {v : Value} {w : World} : (method (P.types.size + Made.depth) t v name).run P w = .ok (f, v) w := by
  obtain ⟨n, hn⟩ : ∃ n, P.types.size + Made.depth = n + 1 := ⟨P.types.size + Made.depth - 1, by unfold Made.depth; omega⟩
  rw [hn, method]
  unfold methodOf at hm
  split at hm
  · rename_i i d hi hu
    have hti : (typeInfo t).run P w = .ok i w := by simp [typeInfo, hi]
    split at hm
    · rename_i m hfind
      split at hm
      · rename_i hp
        have hpath : m.path.toList = [] := by simpa using hp
        have hrun : (underlying t).run P w = .ok d w := run_und hu w
        clear hu
        simp only [Sem.run_bind, hti, Result.andThen_ok, hfind, hpath, follow, Sem.run_pure, hp, if_true]
        split at hm <;> (try (simp at hm; done)) <;> simp only [Option.some.injEq] at hm <;> subst hm
        · simp_all [receiverAt, Place.get]
        · rename_i dd _ _ ff hfn hne
          simp only [hfn, Sem.run_bind, receiverAt, hrun, Result.andThen_ok]
          cases dd <;> simp_all [Place.get]
      · simp at hm
    · simp at hm
  · simp at hm

theorem not_select {call : ACall} {ea : Operand → Value} {h : AHeap} {op : Op} {r : Value × AHeap} (ha : aop P call ea h op = some r) : ∀ cs b, op ≠ .select cs b := by
  intro cs b e; rw [e] at ha; simp [aop, apure, aread, aeff] at ha

/-- One operation of a region. -/
theorem op_stepE {W0 : World} {call : ACall} (hcall : CallOK P G W0 call) {ρ : Rho} {h h' : AHeap} {w : World} {ea ec : Operand → Value} {a : Act} (H : HRel G ρ h w) (K : Kept G W0 w) (hE : ∀ x, opndOK G x = true → VRel ρ (ea x) (ec x))
    {ops : Array Oper} {i : Nat} {rest : List Nat} {o : Oper} (hi : ops[i]? = some o) (ho : operOK G o = true) (hec : ∀ x ∈ o.op.operands, a.eval x = ec x) (hw' : Region.wanted o (yielded ops a.tmps) = true) {v : Value} (ha : aop P call ea h o.op = some (v, h'))
    (b : Frame) (k : List Item) (cs : List Frame) :
    ∃ (ρ' : Rho) (v' : Value) (w' : World), VRel ρ' v v' ∧ HRel G ρ' h' w' ∧ Fr ρ h w ρ' h' w' ∧
      Steps P (lone (b.atR a (.inRegion ops (i :: rest) :: k)) cs w) (lone (b.atR (a.put o.dst v') (.inRegion ops rest :: k)) cs w') := by
  have hg := stepGR_op (P := P) (b := b) (a := a) (k := k) (cs := cs) (w := w) (rest := rest) hi hw'
  have hfin : ∀ u, (b.atR a (.inRegion ops (i :: rest) :: k)).finish u = b.atR (a.put o.dst u) (.inRegion ops rest :: k) := by
    intro u; rw [Frame.finish_atR, hi]; rfl
  have ha0 := ha
  by_cases hnc : notCall o.op
  · obtain ⟨ρ', v', w', nx, r1, r2, r3, r4, r5⟩ := aop_sound (call := call) hE H ho hnc ha
    have hnd : ∀ c, o.op ≠ .defer c := by
      intro c e
      rw [e] at ha
      simp [aop, apure, aread, aeff] at ha
    rw [Oper.semAt_eq _ _ _ hnd, execOp_congr o (not_select ha0) hec] at hg
    refine ⟨ρ', v', w', r3, r4, r5, .one (step_lone_go ?_)⟩
    rw [hg, ← hfin]
    rcases r2 with rfl | ⟨rfl, rfl⟩
    · simp [stepG.apply, r1, Sem.runT_eq]
    · simp [stepG.apply, r1, Sem.runT_eq]
  · -- a call of a function value
    cases hop : o.op with
    | call c =>
      obtain ⟨callee, args, argTypes⟩ := c
      cases callee with
      | value f =>
        rw [hop] at ha
        have hnd : ∀ c, o.op ≠ .defer c := by rw [hop]; simp
        rw [Oper.semAt_eq _ _ _ hnd, execOp_congr o (not_select ha0) hec] at hg
        have ho' : ∀ x ∈ o.op.operands.toList, opndOK G x = true := List.all_eq_true.1 ho
        rw [hop] at ho'
        have hf := hE f (ho' f (by simp [Op.operands, Call.operands]))
        have hargs : LRel ρ (args.toList.map ea) (args.toList.map ec) := by
          refine map_rel hE (G := G) ?_
          rw [List.all_eq_true]; intro x hx; exact ho' x (by simp [Op.operands, Call.operands]; exact Or.inr (by simpa using hx))
        simp only [aop] at ha
        unfold callValue at ha
        split at ha
        · -- a function
          rename_i g first captured hfv
          rw [hfv] at hf
          generalize hcc : ec f = cc at hf
          cases hf with
          | func _ hx hy h1 h2 =>
            rename_i first' captured'
            have hall : LRel ρ (first.toList ++ args.toList.map ea ++ captured.toList) (first' ++ args.map ec ++ captured').toList := by
              simp only [Array.toList_append, Array.toList_map]
              exact ((LRel.toArray hx h1).append hargs).append (LRel.toArray hy h2)
            obtain ⟨e1, e2⟩ := hcall (.fn g) _ _ _ _ ha ρ w _ H K hall
            obtain ⟨ρ', v', w', fr, r1, r2, r3, r4, r5, r6⟩ := e2 (b.atR a (.inRegion ops (i :: rest) :: k) :: cs)
            refine ⟨ρ', v', w', r1, r2, r3, ?_⟩
            refine .head (m₁ := lone (Frame.enter P g (first' ++ args.map ec ++ captured') .normal) (b.atR a (.inRegion ops (i :: rest) :: k) :: cs) w) (step_lone_go ?_) (r4.trans (.one ?_))
            · rw [hg]
              have : (execOp ec o).run P w = .ok (.enter g (first' ++ args.map ec ++ captured')) w := by
                simp only [execOp, hop, resolve, hcc, Deferred.ofValue, Sem.run_bind, Sem.run_pure, Result.andThen_ok, invoke]
                exact e1
              simp [stepG.apply, this, Sem.runT_eq, Frame.atR]
            · rw [← hfin]; exact step_leave_returned r6
        · -- yield
          rename_i l fi ca hfv
          rw [hfv] at hf
          generalize hcc : ec f = cc at hf
          cases hf with
          | yield hp =>
            rename_i p
            have hall : LRel ρ (args.toList.map ea) (args.map ec).toList := by simpa using hargs
            obtain ⟨p2, fn, tmps, as, bd, q1, q2, q3⟩ := hcall (.yield l) _ _ _ _ ha ρ w _ H K hall
            rw [hp] at q1
            simp only [Option.some.injEq] at q1
            subst q1
            obtain ⟨ρ', v', w', r1, r2, r3, r4⟩ := q3 (b.atR a (.inRegion ops (i :: rest) :: k)) cs
            refine ⟨ρ', v', w', r1, r2, r3, ?_⟩
            rw [← hfin]
            refine .head (m₁ := lone (Frame.round p.blk fn tmps as bd .normal) (b.atR a (.inRegion ops (i :: rest) :: k) :: cs) w) (step_lone_go ?_) r4
            rw [hg]
            have : (execOp ec o).run P w = .ok (.round p.blk fn tmps as bd) w := by
              simp only [execOp, hop, resolve, hcc, Deferred.ofValue, Sem.run_bind, Sem.run_pure, Result.andThen_ok, invoke]
              simpa using q2
            simp [stepG.apply, this, Sem.runT_eq, Frame.atR]
        · simp at ha
      | invoke recv name =>
        rw [hop] at ha
        have hnd : ∀ c, o.op ≠ .defer c := by rw [hop]; simp
        rw [Oper.semAt_eq _ _ _ hnd, execOp_congr o (not_select ha0) hec] at hg
        have ho' : ∀ x ∈ o.op.operands.toList, opndOK G x = true := List.all_eq_true.1 ho
        rw [hop] at ho'
        have hf := hE recv (ho' recv (by simp [Op.operands, Call.operands]))
        have hargs : LRel ρ (args.toList.map ea) (args.toList.map ec) := by
          refine map_rel hE (G := G) ?_
          rw [List.all_eq_true]; intro x hx; exact ho' x (by simp [Op.operands, Call.operands]; exact Or.inr (by simpa using hx))
        simp only [aop] at ha
        unfold callInv at ha
        split at ha
        · rename_i ty v0 hfv
          rw [hfv] at hf
          split at ha
          · rename_i f hm
            generalize hcc : ec recv = cc at hf
            cases hf with
            | iface _ hv0 =>
              rename_i v0'
              have hall : LRel ρ (v0 :: args.toList.map ea) (#[v0'] ++ args.map ec).toList := by
                simp only [Array.toList_append, Array.toList_map]
                exact .cons hv0 hargs
              obtain ⟨e1, e2⟩ := hcall (.fn f) _ _ _ _ ha ρ w _ H K hall
              obtain ⟨ρ', v', w', fr, r1, r2, r3, r4, r5, r6⟩ := e2 (b.atR a (.inRegion ops (i :: rest) :: k) :: cs)
              refine ⟨ρ', v', w', r1, r2, r3, ?_⟩
              refine .head (m₁ := lone (Frame.enter P f (#[v0'] ++ args.map ec) .normal) (b.atR a (.inRegion ops (i :: rest) :: k) :: cs) w) (step_lone_go ?_) (r4.trans (.one ?_))
              · rw [hg]
                have : (execOp ec o).run P w = .ok (.enter f (#[v0'] ++ args.map ec)) w := by
                  have q1 : (#[Value.iface ty v0'] ++ args.map ec)[0]? = some (.iface ty v0') := by rw [← Array.getElem?_toList]; simp
                  have q2 : (#[Value.iface ty v0'] ++ args.map ec).extract 1 (#[Value.iface ty v0'] ++ args.map ec).size = args.map ec := by
                    apply Array.toList_inj.1; rw [Array.toList_extract]; simp only [List.extract, Array.toList_append, Array.toList_map, Array.size_append, Array.size_map]; simp; exact List.take_of_length_le (by simp)
                  simp only [execOp, hop, resolve, hcc, Sem.run_bind, Sem.run_pure, Result.andThen_ok, invoke, q1, q2, callMethod, run_program]
                  rw [method_run hm]
                  simp only [Result.andThen_ok]
                  exact e1
                simp [stepG.apply, this, Sem.runT_eq, Frame.atR]
              · rw [← hfin]; exact step_leave_returned r6
          · simp at ha
        · simp at ha
      | _ => rw [hop] at hnc; exact absurd trivial hnc
    | _ => rw [hop] at hnc; exact absurd trivial hnc

theorem op_step {W0 : World} {call : ACall} (hcall : CallOK P G W0 call) {ρ : Rho} {h h' : AHeap} {w : World} {t : List Value} {a : Act} (H : HRel G ρ h w) (K : Kept G W0 w) (ht : LRel ρ t a.tmps.toList)
    {ops : Array Oper} {i : Nat} {rest : List Nat} {o : Oper} (hi : ops[i]? = some o) (ho : operOK G o = true) (hw : Region.wanted o (ayielded ops t) = true) {v : Value} (ha : aop P call (aeval t) h o.op = some (v, h'))
    (b : Frame) (k : List Item) (cs : List Frame) :
    ∃ (ρ' : Rho) (v' : Value) (w' : World), VRel ρ' v v' ∧ HRel G ρ' h' w' ∧ Fr ρ h w ρ' h' w' ∧
      Steps P (lone (b.atR a (.inRegion ops (i :: rest) :: k)) cs w) (lone (b.atR (a.put o.dst v') (.inRegion ops rest :: k)) cs w') :=
  op_stepE hcall H K (LRel.eval H ht) hi ho (fun x _ => rfl) (by rw [yielded_eq ht]; exact hw) ha b k cs

/-- A region's operations in a given order. -/
theorem aops_sound {W0 : World} {call : ACall} (hcall : CallOK P G W0 call) {ops : Array Oper} (hops : ops.toList.all (operOK G) = true) : ∀ (l : List Nat) {s s' : St} {ρ : Rho} {w : World} {a : Act}, aops P call ops l s = some s' →
    HRel G ρ s.h w → Kept G W0 w → LRel ρ s.t a.tmps.toList → ∀ (b : Frame) (k : List Item) (cs : List Frame),
    ∃ (ρ' : Rho) (a' : Act) (w' : World), HRel G ρ' s'.h w' ∧ LRel ρ' s'.t a'.tmps.toList ∧ a'.defers = a.defers ∧ Fr ρ s.h w ρ' s'.h w' ∧
      Steps P (lone (b.atR a (.inRegion ops l :: k)) cs w) (lone (b.atR a' k) cs w') := by
  intro l
  induction l with
  | nil =>
    intro s s' ρ w a h H K ht b k cs
    simp only [aops, Option.some.injEq] at h; subst h
    exact ⟨ρ, a, w, H, ht, rfl, .refl _ _ _, .one stepR_region_end⟩
  | cons i rest ih =>
    intro s s' ρ w a h H K ht b k cs
    simp only [aops] at h
    split at h
    · simp at h
    · rename_i o hi
      have ho : operOK G o = true := by
        have hm : o ∈ ops.toList := by rw [Array.mem_toList_iff]; exact Array.mem_of_getElem? hi
        exact List.all_eq_true.1 hops o hm
      split at h
      · rename_i hw
        split at h
        · rename_i v h1 ha
          obtain ⟨ρ', v', w', r1, r2, r3, r4⟩ := op_step hcall H K ht hi ho hw ha (rest := rest) b k cs
          obtain ⟨ρ2, a2, w2, q1, q2, q3, q4, q5⟩ := ih h r2 (r3.kept H K) ((ht.mono r3.ext).put r1 o.dst) b k cs
          exact ⟨ρ2, a2, w2, q1, q2, q3.trans (put_defers _ _ _), r3.trans q4, r4.trans q5⟩
        · simp at h
      · rename_i hw
        have hw' : Region.wanted o (yielded ops a.tmps) = false := by rw [yielded_eq ht]; simpa using hw
        obtain ⟨ρ2, a2, w2, q1, q2, q3, q4, q5⟩ := ih h H K (ht.put (.undef ρ) o.dst) b k cs
        refine ⟨ρ2, a2, w2, q1, q2, q3.trans (put_defers _ _ _), q4, .head ?_ q5⟩
        have := stepR_op_skip (P := P) (b := b) (a := a) (k := k) (cs := cs) (w := w) (ops := ops) (i := i) (rest := rest) (by simp [hi, hw'])
        rw [hi] at this
        exact this
end Go.AM
