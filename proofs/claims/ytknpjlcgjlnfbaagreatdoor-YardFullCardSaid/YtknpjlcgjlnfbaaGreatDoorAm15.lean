/-
  THE ABSTRACT EXECUTOR: code, functions, rounds: WHAT IT ANSWERS, THE MACHINE DOES.
-/
import Derived.Test.YtknpjlcgjlnfbaaGreatDoorAm14
set_option linter.unusedSimpArgs false
set_option linter.unusedVariables false
namespace Go.AM
variable {P : Program} {G : Nat}

/-! ### Blocks that no abstract object speaks of -/
theorem HRel.junk {ρ : Rho} {h : AHeap} {w : World} (H : HRel G ρ h w) (o : Obj) : HRel G ρ h (w.alloc o) ∧ Fr ρ h w ρ h (w.alloc o) := by
  refine ⟨⟨H.dom, fun b x p hb hp => (H.obj b x p hb hp).mono (.refl ρ) (fun _ => heap_push_old w o (H.lt b p hp)), fun b p hp => by have := H.lt b p hp; simp; omega, H.bd, H.sep, H.glob, H.gown, by have := H.gsz; simp; omega⟩,
    ⟨.refl ρ, by simp, rfl, rfl, rfl, fun b x p hb hx hp _ => ⟨b, x, p, hb, hx, hp, rfl⟩, fun b x p hb hx hp _ => ⟨b, x, p, hb, hx, hp, rfl⟩, fun c hc _ => heap_push_old w o hc⟩⟩

theorem own_not_deferred {ρ : Rho} {w : World} {p : Pl} {o : AObj} (ho : o.live = true) (h : ObjRel G ρ w p o) {x : Option (List Deferred)} : w.heap[p.blk]? ≠ some (.deferred x) := by
  cases o with
  | dead => simp [AObj.live] at ho
  | row cs own => obtain ⟨c, t, fz, h1, _⟩ := h; rw [h1]; simp
  | siter s pos => rw [h.1]; simp
  | amap es => obtain ⟨a, b, h1, _⟩ := h; rw [h1]; simp
  | loop st pd ts ps as bd => obtain ⟨L, h1, _⟩ := h; rw [h1]; simp

theorem own_live {o : AObj} (h : o.own = true) : o.live = true := by cases o <;> first | rfl | simp [AObj.own] at h

def marks (Ds : List Nat) : List Deferred := Ds.map fun D => { target := .collected D, args := #[] }

def DefOK (N0 : Nat) (w : World) (ds : List Deferred) : Prop :=
  ∃ Ds : List Nat, ds = marks Ds ∧ Ds.Nodup ∧ ∀ D ∈ Ds, N0 ≤ D ∧ w.heap[D]? = some (.deferred (some []))

theorem lt_of_heap {w : World} {b : Nat} {o : Obj} (h : w.heap[b]? = some o) : b < w.heap.size := by
  rcases Nat.lt_or_ge b w.heap.size with e | e
  · exact e
  · rw [Array.getElem?_eq_none e] at h; simp at h

theorem Fr.keepDeferred {ρ ρ' : Rho} {h h' : AHeap} {w w' : World} (F : Fr ρ h w ρ' h' w') (H : HRel G ρ h w) {D : Nat} {x : Option (List Deferred)} (hD : w.heap[D]? = some (.deferred x)) : w'.heap[D]? = some (.deferred x) := by
  rw [F.keep D (lt_of_heap hD) ?_]
  · exact hD
  · intro b o p hb ho hp e
    have := own_not_deferred (own_live ho) (H.obj b o p hb hp) (x := x)
    rw [e] at this; exact this hD

theorem DefOK.fr {N0 : Nat} {ρ ρ' : Rho} {h h' : AHeap} {w w' : World} {ds : List Deferred} (d : DefOK N0 w ds) (F : Fr ρ h w ρ' h' w') (H : HRel G ρ h w) : DefOK N0 w' ds := by
  obtain ⟨Ds, h1, h2, h3⟩ := d
  exact ⟨Ds, h1, h2, fun D hD => ⟨(h3 D hD).1, F.keepDeferred H (h3 D hD).2⟩⟩

/-! ### Where code arrives -/
def Arr (P : Program) (b : Frame) (k : List Item) (cs : List Frame) (m : Machine) : AExit → Act → World → Prop
  | .normal, a, w => Steps P m (lone (b.atR a k) cs w)
  | .exit id, a, w => ∃ k0, exitTo id k0 = exitTo id k ∧ Steps P m (lone (b.atR a (.code (.exit id) :: k0)) cs w)
  | .ret, a, w => ∃ k0, Steps P m (lone (b.atR a (.code .ret :: k0)) cs w)

theorem Arr.head {b : Frame} {k : List Item} {cs : List Frame} {m m1 : Machine} {e : AExit} {a : Act} {w : World} (h : Steps P m m1) (k1 : Arr P b k cs m1 e a w) : Arr P b k cs m e a w := by
  cases e with
  | normal => exact h.trans k1
  | exit id => obtain ⟨k0, h1, h2⟩ := k1; exact ⟨k0, h1, h.trans h2⟩
  | ret => obtain ⟨k0, h2⟩ := k1; exact ⟨k0, h.trans h2⟩

theorem Arr.pass {b : Frame} {x : Item} {k : List Item} {cs : List Frame} {m : Machine} {e : AExit} {a : Act} {w : World} (hx : ∀ id, exitTo id (x :: k) = exitTo id k) (he : e ≠ .normal) (h : Arr P b (x :: k) cs m e a w) : Arr P b k cs m e a w := by
  cases e with
  | normal => exact absurd rfl he
  | exit id => obtain ⟨k0, h1, h2⟩ := h; exact ⟨k0, h1.trans (hx id), h2⟩
  | ret => exact h

theorem stepR_scope {b : Frame} {a : Act} {k : List Item} {cs : List Frame} {w : World} {c : Code} : step P (lone (b.atR a (.code (.scope c) :: k)) cs w) = .next (lone (b.atR a (.code c :: .inScope c :: k)) cs w) :=
  step_lone_go (by simp [stepG, stepG.exec, Frame.atR])
theorem stepR_inScope {b : Frame} {a : Act} {k : List Item} {cs : List Frame} {w : World} {c : Code} : step P (lone (b.atR a (.inScope c :: k)) cs w) = .next (lone (b.atR a k) cs w) :=
  step_lone_go (by simp [stepG, stepG.exec, Frame.atR])

def RoundOK (ρ : Rho) : Option Nat → Option Nat → Prop
  | none, none => True
  | some l, some c => ∃ p, ρ l = some p ∧ p.blk = c
  | _, _ => False
theorem RoundOK.mono {ρ ρ' : Rho} (h : RhoLe ρ ρ') {x y : Option Nat} (r : RoundOK ρ x y) : RoundOK ρ' x y := by
  cases x <;> cases y <;> first | exact r | (obtain ⟨p, h1, h2⟩ := r; exact ⟨p, h _ _ h1, h2⟩)

/-- What running code comes to. -/
def Goes (P : Program) (G : Nat) (ρ : Rho) (h : AHeap) (w : World) (N0 : Nat) (b : Frame) (k : List Item) (cs : List Frame) (m : Machine) (e : AExit) (s' : St) : Prop :=
  ∃ (ρ' : Rho) (a' : Act) (w' : World), HRel G ρ' s'.h w' ∧ LRel ρ' s'.t a'.tmps.toList ∧ Fr ρ h w ρ' s'.h w' ∧ DefOK N0 w' a'.defers ∧ Arr P b k cs m e a' w'

theorem enterLoop_none (fn : FuncId) (tmps : Array Value) (params : Array Tmp) (as bd : Code) (w : World) :
    (Instr.enterLoop fn tmps params as bd none).run P w = .ok (w.heap.size + 1, [{ target := .collected w.heap.size, args := #[] }])
      ((w.alloc (.deferred (some []))).alloc (.loop { state := .ready, pending := none, fn, tmps, params, assign := as, body := bd, defers := w.heap.size })) := by
  simp [Instr.enterLoop]

theorem enterLoop_some (fn : FuncId) (tmps : Array Value) (params : Array Tmp) (as bd : Code) (w : World) {l : Nat} {L : Loop} (hl : w.heap[l]? = some (.loop L)) :
    (Instr.enterLoop fn tmps params as bd (some l)).run P w = .ok (w.heap.size, [])
      (w.alloc (.loop { state := .ready, pending := none, fn, tmps, params, assign := as, body := bd, defers := L.defers })) := by
  simp [Instr.enterLoop, Instr.getLoop, getObj, Sem.run, hl]

theorem setLoop {ρ : Rho} {h : AHeap} {w : World} (H : HRel G ρ h w) {l : Nat} {p : Pl} {st st' : LoopState} {pd pd' : Option Code} {ts : List Value} {ps : List Tmp} {as bd : Code} (hb : h[l]? = some (.loop st pd ts ps as bd)) (hp : ρ l = some p) :
    ∃ L : Loop, w.heap[p.blk]? = some (.loop L) ∧ L.state = st ∧ L.pending = pd ∧
      HRel G ρ (h.set l (.loop st' pd' ts ps as bd)) { w with heap := w.heap.setIfInBounds p.blk (.loop { L with state := st', pending := pd' }) } ∧
      Fr ρ h w ρ (h.set l (.loop st' pd' ts ps as bd)) { w with heap := w.heap.setIfInBounds p.blk (.loop { L with state := st', pending := pd' }) } := by
  obtain ⟨L, g1, g2⟩ := H.obj l _ p hb hp
  refine ⟨L, g1, g2.state, g2.pending, ?_⟩
  refine H.update hb rfl hp (by simp) rfl rfl rfl ?_ rfl ⟨{ L with state := st', pending := pd' }, ?_, ?_⟩
  · intro c hc
    rw [Array.getElem?_setIfInBounds, if_neg (fun e => hc e.symm)]
  · rw [Array.getElem?_setIfInBounds, if_pos rfl, if_pos (H.lt l p hp)]
  · exact { g2 with state := rfl, pending := rfl, params := g2.params, assign := g2.assign, body := g2.body, tmps := g2.tmps }

theorem exitOf_spec {pd : Option Code} {e : AExit} (h : exitOf pd = some e) : jumpOf e = pd := by
  unfold exitOf at h
  split at h <;> simp only [Option.some.injEq, reduceCtorEq] at h <;> subst h <;> rfl

theorem aex_sound {W0 : World} (hmix : P.follows .mixedOrders = true) {call : ACall} (hcall : CallOK P G W0 call) (n : Nat) : ∀ (c : Code) {ro : Option Nat} {s s' : St} {e : AExit}, aex P call n ro c s = some (e, s') → codeOK G c = true →
    ∀ {ρ : Rho} {w : World} {a : Act}, HRel G ρ s.h w → Kept G W0 w → LRel ρ s.t a.tmps.toList → ∀ (b : Frame), RoundOK ρ ro b.roundOf → ∀ {N0 : Nat}, DefOK N0 w a.defers → N0 ≤ w.heap.size → ∀ (k : List Item) (cs : List Frame),
      Goes P G ρ s.h w N0 b k cs (lone (b.atR a (.code c :: k)) cs w) e s' := by
  intro c
  induction c with
  | skip =>
    intro ro s s' e h _ ρ w a H K ht b hr N0 hd hN k cs
    simp only [aex, Option.some.injEq, Prod.mk.injEq] at h; obtain ⟨rfl, rfl⟩ := h
    exact ⟨ρ, a, w, H, ht, .refl _ _ _, hd, .one stepR_skip⟩
  | label l =>
    intro ro s s' e h _ ρ w a H K ht b hr N0 hd hN k cs
    simp only [aex, Option.some.injEq, Prod.mk.injEq] at h; obtain ⟨rfl, rfl⟩ := h
    exact ⟨ρ, a, w, H, ht, .refl _ _ _, hd, .one stepR_label⟩
  | ret =>
    intro ro s s' e h _ ρ w a H K ht b hr N0 hd hN k cs
    simp only [aex, Option.some.injEq, Prod.mk.injEq] at h; obtain ⟨rfl, rfl⟩ := h
    exact ⟨ρ, a, w, H, ht, .refl _ _ _, hd, k, .refl _ _⟩
  | exit id =>
    intro ro s s' e h _ ρ w a H K ht b hr N0 hd hN k cs
    simp only [aex, Option.some.injEq, Prod.mk.injEq] at h; obtain ⟨rfl, rfl⟩ := h
    exact ⟨ρ, a, w, H, ht, .refl _ _ _, hd, k, rfl, .refl _ _⟩
  | goto l => intro ro s s' e h; simp [aex] at h
  | refuse why => intro ro s s' e h; simp [aex] at h
  | region id ops draw =>
    intro ro s s' e h hc ρ w a H K ht b hr N0 hd hN k cs
    simp only [aex] at h
    split at h
    · rename_i s1 hs
      simp only [Option.some.injEq, Prod.mk.injEq] at h; obtain ⟨rfl, rfl⟩ := h
      obtain ⟨ρ', a', w', q1, q2, q3, q4, q5⟩ := aregion_sound hmix hcall (by simpa [codeOK] using hc) hs H K ht id b k cs
      exact ⟨ρ', a', w', q1, q2, q4, by rw [q3]; exact hd.fr q4 H, q5⟩
    · simp at h
  | seq x y ihx ihy =>
    intro ro s s' e h hc ρ w a H K ht b hr N0 hd hN k cs
    simp only [codeOK, Bool.and_eq_true] at hc
    simp only [aex] at h
    split at h
    · rename_i s1 hs
      obtain ⟨ρ1, a1, w1, q1, q2, q3, q4, q5⟩ := ihx hs hc.1 H K ht b hr hd hN (.code y :: k) cs
      obtain ⟨ρ2, a2, w2, r1, r2, r3, r4, r5⟩ := ihy h hc.2 q1 (q3.kept H K) q2 b (hr.mono q3.ext) q4 (Nat.le_trans hN q3.size) k cs
      exact ⟨ρ2, a2, w2, r1, r2, q3.trans r3, r4, r5.head (.head stepR_seq q5)⟩
    · rename_i r hr1
      rw [h] at hr1
      obtain ⟨ρ1, a1, w1, q1, q2, q3, q4, q5⟩ := ihx h hc.1 H K ht b hr hd hN (.code y :: k) cs
      have hne : e ≠ .normal := fun he => hr1 s' (by rw [he])
      exact ⟨ρ1, a1, w1, q1, q2, q3, q4, (q5.pass (fun id => rfl) hne).head (.one stepR_seq)⟩
  | cond x y z ihy ihz =>
    intro ro s s' e h hc ρ w a H K ht b hr N0 hd hN k cs
    simp only [codeOK, Bool.and_eq_true] at hc
    have hx := LRel.eval H ht x hc.1.1
    simp only [aex] at h
    split at h
    · rename_i hv
      rw [hv] at hx
      obtain ⟨ρ1, a1, w1, q1, q2, q3, q4, q5⟩ := ihy h hc.1.2 H K ht b hr hd hN k cs
      generalize hcc : a.eval x = cc at hx
      cases hx
      exact ⟨ρ1, a1, w1, q1, q2, q3, q4, q5.head (.one (by have := stepR_cond (P := P) (b := b) (a := a) (k := k) (cs := cs) (w := w) (x := y) (y := z) hcc; simpa using this))⟩
    · rename_i hv
      rw [hv] at hx
      obtain ⟨ρ1, a1, w1, q1, q2, q3, q4, q5⟩ := ihz h hc.2 H K ht b hr hd hN k cs
      generalize hcc : a.eval x = cc at hx
      cases hx
      exact ⟨ρ1, a1, w1, q1, q2, q3, q4, q5.head (.one (by have := stepR_cond (P := P) (b := b) (a := a) (k := k) (cs := cs) (w := w) (x := y) (y := z) hcc; simpa using this))⟩
    · simp at h
  | block id body ih =>
    intro ro s s' e h hc ρ w a H K ht b hr N0 hd hN k cs
    simp only [codeOK] at hc
    simp only [aex] at h
    split at h
    · rename_i i s1 hs
      obtain ⟨ρ1, a1, w1, q1, q2, q3, q4, q5⟩ := ih hs hc H K ht b hr hd hN (.inBlock id :: k) cs
      obtain ⟨k0, h1, h2⟩ := q5
      split at h
      · rename_i hid
        subst hid
        simp only [Option.some.injEq, Prod.mk.injEq] at h; obtain ⟨rfl, rfl⟩ := h
        refine ⟨ρ1, a1, w1, q1, q2, q3, q4, Steps.head stepR_block (h2.trans (.one (stepR_exit ?_)))⟩
        rw [h1]; simp [exitTo]
      · rename_i hid
        simp only [Option.some.injEq, Prod.mk.injEq] at h; obtain ⟨rfl, rfl⟩ := h
        refine ⟨ρ1, a1, w1, q1, q2, q3, q4, k0, ?_, .head stepR_block h2⟩
        rw [h1]
        simp only [exitTo]
        rw [if_neg]
        simpa using fun e => hid e.symm
    · rename_i r hr1
      rw [h] at hr1
      obtain ⟨ρ1, a1, w1, q1, q2, q3, q4, q5⟩ := ih h hc H K ht b hr hd hN (.inBlock id :: k) cs
      cases e with
      | normal => exact ⟨ρ1, a1, w1, q1, q2, q3, q4, Steps.head stepR_block (Steps.trans q5 (.one stepR_inBlock))⟩
      | exit i => exact absurd rfl (hr1 i s')
      | ret => exact ⟨ρ1, a1, w1, q1, q2, q3, q4, by obtain ⟨k0, hk⟩ := q5; exact ⟨k0, .head stepR_block hk⟩⟩
  | scope body ih =>
    intro ro s s' e h hc ρ w a H K ht b hr N0 hd hN k cs
    simp only [codeOK] at hc
    simp only [aex] at h
    obtain ⟨ρ1, a1, w1, q1, q2, q3, q4, q5⟩ := ih h hc H K ht b hr hd hN (.inScope body :: k) cs
    refine ⟨ρ1, a1, w1, q1, q2, q3, q4, ?_⟩
    by_cases he : e = .normal
    · subst he; exact Steps.head stepR_scope (Steps.trans q5 (.one stepR_inScope))
    · exact (q5.pass (fun id => rfl) he).head (.one stepR_scope)
  | loop body ih =>
    intro ro s s' e h hc ρ w a H K ht b hr N0 hd hN k cs
    simp only [codeOK] at hc
    simp only [aex] at h
    have key : ∀ (m : Nat) {s : St} {ρ : Rho} {w : World} {a : Act}, aloop (aex P call n ro body) m s = some (e, s') → HRel G ρ s.h w → Kept G W0 w → LRel ρ s.t a.tmps.toList → RoundOK ρ ro b.roundOf → DefOK N0 w a.defers → N0 ≤ w.heap.size →
        Goes P G ρ s.h w N0 b k cs (lone (b.atR a (.code body :: .inLoop body :: k)) cs w) e s' := by
      intro m
      induction m with
      | zero => intro s ρ w a h; simp [aloop] at h
      | succ m ihm =>
        intro s ρ w a h H K ht hr hd hN
        simp only [aloop] at h
        split at h
        · rename_i s1 hs
          obtain ⟨ρ1, a1, w1, q1, q2, q3, q4, q5⟩ := ih hs hc H K ht b hr hd hN (.inLoop body :: k) cs
          obtain ⟨ρ2, a2, w2, r1, r2, r3, r4, r5⟩ := ihm h q1 (q3.kept H K) q2 (hr.mono q3.ext) q4 (Nat.le_trans hN q3.size)
          exact ⟨ρ2, a2, w2, r1, r2, q3.trans r3, r4, r5.head (Steps.trans q5 (.one stepR_inLoop))⟩
        · rename_i r hr1
          rw [h] at hr1
          obtain ⟨ρ1, a1, w1, q1, q2, q3, q4, q5⟩ := ih h hc H K ht b hr hd hN (.inLoop body :: k) cs
          have hne : e ≠ .normal := fun he => hr1 s' (by rw [he])
          exact ⟨ρ1, a1, w1, q1, q2, q3, q4, q5.pass (fun id => rfl) hne⟩
    obtain ⟨ρ1, a1, w1, q1, q2, q3, q4, q5⟩ := key n h H K ht hr hd hN
    exact ⟨ρ1, a1, w1, q1, q2, q3, q4, q5.head (.one stepR_loop)⟩
  | rangeFunc f params as bd iha ihb =>
    intro ro s s' e h hc ρ w a H K ht b hr N0 hd hN k cs
    simp only [codeOK, Bool.and_eq_true] at hc
    have hf := LRel.eval H ht f hc.1.1
    simp only [aex] at h
    split at h
    · rename_i g first captured hfv
      rw [hfv] at hf
      generalize hcc : a.eval f = cc at hf
      cases hf with
      | func _ hx hy h1 h2 =>
        rename_i first' captured'
        split at h
        · rename_i hin
          split at h
          · rename_i v0 h0 hres
            split at h
            · rename_i st pending ts ps as' bd' hl
              split at h
              · simp at h
              · rename_i hbusy
                split at h
                · rename_i e0 he0
                  simp only [Option.some.injEq, Prod.mk.injEq] at h
                  obtain ⟨rfl, rfl⟩ := h
                  -- the record is laid
                  have enter : ∃ (lc : Nat) (mark : List Deferred) (w1 : World), (Instr.enterLoop b.fn a.tmps params as bd b.roundOf).run P w = .ok (lc, mark) w1 ∧ DefOK N0 w1 (mark ++ a.defers) ∧
                      ∃ en, HRel G (upd ρ s.h.length ⟨lc, 0, en⟩) (s.h ++ [.loop .ready none s.t params.toList as bd]) w1 ∧ Fr ρ s.h w (upd ρ s.h.length ⟨lc, 0, en⟩) (s.h ++ [.loop .ready none s.t params.toList as bd]) w1 := by
                    have hloop : ∀ {w2 : World} {ρ2 : Rho} {D : Nat}, RhoLe ρ ρ2 → LoopIs ρ2 G { state := .ready, pending := none, fn := b.fn, tmps := a.tmps, params, assign := as, body := bd, defers := D } .ready none s.t params.toList as bd :=
                      fun hle => ⟨rfl, rfl, rfl, rfl, rfl, ht.mono hle, hc.1.2, hc.2⟩
                    cases hbr : b.roundOf with
                    | none =>
                      obtain ⟨J1, J2⟩ := H.junk (.deferred (some []))
                      obtain ⟨k1, k2⟩ := J1.alloc (oc := .loop { state := .ready, pending := none, fn := b.fn, tmps := a.tmps, params, assign := as, body := bd, defers := w.heap.size }) (oa := .loop .ready none s.t params.toList as bd) (sh := 0) (en := 0)
                        ⟨_, heap_push_new _ _, hloop (w2 := w) (J1.updLe _)⟩
                      simp only [World.size_alloc] at k1 k2
                      refine ⟨w.heap.size + 1, _, _, enterLoop_none _ _ _ _ _ w, ?_, 0, k1, J2.trans k2⟩
                      obtain ⟨Ds, d1, d2, d3⟩ := hd.fr (J2.trans k2) H
                      refine ⟨w.heap.size :: Ds, by rw [d1]; rfl, ?_, ?_⟩
                      · rw [List.nodup_cons]
                        refine ⟨fun hm => ?_, d2⟩
                        obtain ⟨Ds0, e1, e2, e3⟩ := hd
                        have : Ds0 = Ds := by
                          have := d1.symm.trans e1
                          unfold marks at this
                          have hinj : ∀ {x y : List Nat}, x.map (fun D => ({ target := .collected D, args := #[] } : Deferred)) = y.map (fun D => ({ target := .collected D, args := #[] } : Deferred)) → x = y := by
                            intro x
                            induction x with
                            | nil => intro y hxy; cases y with
                              | nil => rfl
                              | cons _ _ => simp at hxy
                            | cons a x ih => intro y hxy; cases y with
                              | nil => simp at hxy
                              | cons b y => simp at hxy; rw [hxy.1, ih (by simpa using hxy.2)]
                          exact (hinj this).symm
                        subst this
                        have := lt_of_heap (e3 _ hm).2
                        omega
                      · intro D hD
                        rcases List.mem_cons.1 hD with rfl | hD
                        · refine ⟨hN, ?_⟩
                          rw [heap_push_old _ _ (by simp)]
                          exact heap_push_new w _
                        · exact d3 D hD
                    | some lc =>
                      cases ro with
                      | none => rw [hbr] at hr; exact hr.elim
                      | some l =>
                        rw [hbr] at hr
                        obtain ⟨p, hp, rfl⟩ := hr
                        simp only [inRound] at hin
                        split at hin
                        · rename_i hlo
                          obtain ⟨L, g1, g2⟩ := H.obj l _ p hlo hp
                          obtain ⟨k1, k2⟩ := H.alloc (oc := .loop { state := .ready, pending := none, fn := b.fn, tmps := a.tmps, params, assign := as, body := bd, defers := L.defers }) (oa := .loop .ready none s.t params.toList as bd) (sh := 0) (en := 0)
                            ⟨_, heap_push_new _ _, hloop (w2 := w) (H.updLe _)⟩
                          exact ⟨w.heap.size, [], _, enterLoop_some _ _ _ _ _ w g1, hd.fr k2 H, 0, k1, k2⟩
                        · simp at hin
                  obtain ⟨lc, mark, w1, hent, hd1, en, H1, F1⟩ := enter
                  have hρl : upd ρ s.h.length ⟨lc, 0, en⟩ s.h.length = some ⟨lc, 0, en⟩ := upd_same _ _ _
                  -- the call
                  have hall : LRel (upd ρ s.h.length ⟨lc, 0, en⟩) (first.toList ++ [.func (.yield s.h.length) #[] #[]] ++ captured.toList) (first' ++ #[Value.func (.yield lc) #[] #[]] ++ captured').toList := by
                    simp only [Array.toList_append]
                    exact (((LRel.toArray hx h1).mono F1.ext).append (.cons (.yield hρl) .nil)).append ((LRel.toArray hy h2).mono F1.ext)
                  obtain ⟨c1, c2⟩ := hcall (.fn g) _ _ _ _ hres _ w1 _ H1 (F1.kept H K) hall
                  obtain ⟨ρ2, v2, w2, fr, r1, r2, r3, r4, r5, r6⟩ := c2 (b.atR { a with defers := mark ++ a.defers } (.inRangeFunc lc :: k) :: cs)
                  have hρ2 : ρ2 s.h.length = some ⟨lc, 0, en⟩ := r3.ext _ _ hρl
                  obtain ⟨L, l1, l2, l3, l4, l5⟩ := setLoop r2 (st' := .exhausted) (pd' := pending) hl hρ2
                  have hend : (Instr.endLoop lc).run P w2 = .ok pending { w2 with heap := w2.heap.setIfInBounds lc (.loop { L with state := .exhausted, pending := pending }) } := by
                    have e1 : (L.state == LoopState.busy) = false := by rw [l2]; simpa using hbusy
                    have e2 : { L with state := .exhausted } = { L with state := .exhausted, pending := pending } := by rw [← l3]
                    simp only [Instr.endLoop, Instr.getLoop, getObj, setObj, Sem.run_bind, Sem.run]
                    rw [show w2.heap[lc]? = some (.loop L) from l1]
                    simp only [Sem.run, Result.andThen_ok, Sem.run_bind, Sem.run_pure, e1, Bool.false_eq_true, if_false, l3]
                    rw [show w2.heap[lc]? = some (.loop L) from l1]
                    simp only [e2]
                    simp [← l3, e2]
                  refine ⟨ρ2, { a with defers := mark ++ a.defers }, _, l4, ht.mono (F1.ext.trans r3.ext), F1.trans (r3.trans l5), ((hd1.fr r3 H1).fr l5 r2), ?_⟩
                  have hst1 : step P (lone (b.atR a (.code (.rangeFunc f params as bd) :: k)) cs w) = .next (lone (Frame.enter P g (first' ++ #[Value.func (.yield lc) #[] #[]] ++ captured') .normal) (b.atR { a with defers := mark ++ a.defers } (.inRangeFunc lc :: k) :: cs) w1) := by
                    refine stepR_rangeFunc (d := { target := .fn (.func g) captured', args := first' ++ #[Value.func (.yield lc) #[] #[]] }) (w₁' := w1) hent ?_ ?_
                    · show (Deferred.ofValue (a.eval f) _).run P w1 = _
                      rw [hcc]
                      simp [Deferred.ofValue, Act.eval]
                    · simpa [invoke] using c1
                  have hst2 : step P (lone fr (b.atR { a with defers := mark ++ a.defers } (.inRangeFunc lc :: k) :: cs) w2) = .next (lone (b.atR { a with defers := mark ++ a.defers } (.endRangeFunc lc :: k)) cs w2) := by
                    have := step_leave_returned (P := P) (c := b.atR { a with defers := mark ++ a.defers } (.inRangeFunc lc :: k)) (cs := cs) r6
                    rw [finish_atR_inRangeFunc] at this; exact this
                  have hst3 := stepR_endRangeFunc (P := P) (b := b) (a := { a with defers := mark ++ a.defers }) (k := k) (cs := cs) hend
                  have hall3 := Steps.head hst1 (r4.trans (.head hst2 (.one hst3)))
                  have hj := exitOf_spec he0
                  subst hj
                  cases e0 with
                  | normal => exact hall3
                  | ret => exact ⟨k, hall3⟩
                  | exit id => exact ⟨k, rfl, hall3⟩
                · simp at h
            · simp at h
          · simp at h
        · simp at h
    · simp at h
end Go.AM
