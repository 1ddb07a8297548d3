/-
  THE ABSTRACT EXECUTOR: a region that draws its order (3): the whole of it.
-/
import Derived.Test.YtpbmpdocgplhpaaDoorAm13
set_option linter.unusedSimpArgs false
set_option linter.unusedVariables false
namespace Go.AM
variable {P : Program} {G : Nat}

/-- m effects in the text's order are those that S has done. -/
def Cond (P : Program) (ops : Array Oper) (n : Nat) (T : Nat → List Value) (S : Nat → Bool) (m : Nat) : Prop :=
  ∀ j o, j < n → ops[j]? = some o → kindOf P o.op = 2 → Region.wanted o (ayielded ops (T j)) = true → (S j = true ↔ j < m)

theorem Cond.heap {call : ACall} {ops : Array Oper} {n : Nat} {T : Nat → List Value} {Hh : Nat → AHeap} {V : Nat → Value} {S : Nat → Bool} (tr : Trace P call ops 0 n T Hh V) {m1 m2 : Nat} (h1 : m1 ≤ n) (h2 : m2 ≤ n)
    (c1 : Cond P ops n T S m1) (c2 : Cond P ops n T S m2) : Hh m1 = Hh m2 := by
  have key : ∀ a b, a ≤ b → b ≤ n → Cond P ops n T S a → Cond P ops n T S b → Hh b = Hh a := by
    intro a b hab hb ca cb
    have : ∀ q, a ≤ q → q ≤ b → Hh q = Hh a := by
      intro q
      induction q with
      | zero =>
        intro h _
        have : a = 0 := by omega
        subst this; rfl
      | succ q ih =>
        intro h1 h2
        by_cases e : a = q + 1
        · rw [e]
        · rw [← ih (by omega) (by omega)]
          cases tr.step q (by omega) (by omega) with
          | skip _ _ _ _ hh => exact hh
          | pure _ _ _ _ _ hh => exact hh
          | read _ _ _ _ _ _ _ _ hh => exact hh
          | eff o2 hi2 hw2 hk2 _ =>
            exfalso
            have x1 := ca q o2 (by omega) hi2 hk2 hw2
            have x2 := cb q o2 (by omega) hi2 hk2 hw2
            have := x1.1 (x2.2 (by omega))
            omega
    exact this b hab (Nat.le_refl _)
  rcases Nat.le_total m1 m2 with h | h
  · exact (key m1 m2 h h2 c1 c2).symm
  · exact key m2 m1 h h1 c2 c1

def left (n : Nat) (listed : Array Bool) : Nat := ((List.range n).filter fun i => !listed.getD i false).length

theorem left_set {n i : Nat} {listed : Array Bool} (hl : listed.size = n) (hi : i < n) (hS : listed.getD i false = false) : left n (listed.setIfInBounds i true) < left n listed := by
  unfold left
  have hsub : ∀ j, (!(listed.setIfInBounds i true).getD j false) = true → (!listed.getD j false) = true := by
    intro j hj
    rw [setS (by omega)] at hj
    split at hj
    · simp at hj
    · exact hj
  have key : ∀ l : List Nat, (l.filter fun j => !(listed.setIfInBounds i true).getD j false).length ≤ (l.filter fun j => !listed.getD j false).length ∧
      (i ∈ l → (l.filter fun j => !(listed.setIfInBounds i true).getD j false).length < (l.filter fun j => !listed.getD j false).length) := by
    intro l
    induction l with
    | nil => exact ⟨Nat.le_refl _, fun h => by simp at h⟩
    | cons x l ih =>
      simp only [List.filter_cons]
      by_cases hx : x = i
      · subst hx
        have e1 : (!(listed.setIfInBounds x true).getD x false) = false := by rw [setS (by omega)]; simp
        have e2 : (!listed.getD x false) = true := by rw [hS]; rfl
        rw [e1, e2]
        simp only [Bool.false_eq_true, if_false, if_true, List.length_cons]
        exact ⟨by have := ih.1; omega, fun _ => by have := ih.1; omega⟩
      · have e1 : (listed.setIfInBounds i true).getD x false = listed.getD x false := by rw [setS (by omega), if_neg hx]
        rw [e1]
        split
        · simp only [List.length_cons]
          refine ⟨by have := ih.1; omega, fun h => ?_⟩
          have := ih.2 (by rcases List.mem_cons.1 h with h | h; exact absurd h.symm hx; exact h)
          omega
        · exact ⟨ih.1, fun h => ih.2 (by rcases List.mem_cons.1 h with h | h; exact absurd h.symm hx; exact h)⟩
  exact (key (List.range n)).2 (List.mem_range.2 hi)

theorem ready_spec {ops : Array Oper} {listed : Array Bool} {n i : Nat} (hn : ops.size = n) (hl : listed.size = n) (h : i ∈ Region.ready .any ops listed) :
    i < n ∧ listed.getD i false = false ∧ ∃ o, ops[i]? = some o ∧ ∀ e ∈ o.after.toList, Region.binds .any e = true → listed.getD e.on false = true := by
  unfold Region.ready at h
  rw [List.mem_filter] at h
  obtain ⟨hr, h⟩ := h
  have hi : i < n := by have := List.mem_range.1 hr; omega
  simp only [Bool.and_eq_true, Bool.not_eq_true'] at h
  refine ⟨hi, ?_, ops[i], by simp, ?_⟩
  · have := h.1
    simp only [Array.getD_eq_getD_getElem?] at this ⊢
    rw [Array.getElem?_eq_getElem (by omega)] at this ⊢
    simpa using this
  · have := h.2
    rw [Array.getElem?_eq_getElem (by omega)] at this
    simp only [Option.map_some, Option.getD_some, Array.all_eq_true'] at this
    intro e he hb
    have := this e (by simpa using he)
    simpa [hb] using this

theorem ready_nil {ops : Array Oper} {listed : Array Bool} {n : Nat} (hn : ops.size = n) (hl : listed.size = n) (D : DrawOK P ops.toList) (h : Region.ready .any ops listed = []) : ∀ i, i < n → listed.getD i false = true := by
  intro i
  induction i using Nat.strongRecOn with
  | _ i ih =>
    intro hi
    rcases hb : listed.getD i false with _ | _
    · exfalso
      have hm : i ∈ Region.ready .any ops listed := by
        unfold Region.ready
        rw [List.mem_filter]
        refine ⟨List.mem_range.2 (by omega), ?_⟩
        rw [Array.getElem?_eq_getElem (by omega)]
        simp only [Option.map_some, Option.getD_some, Bool.and_eq_true, Bool.not_eq_true', Array.all_eq_true']
        refine ⟨?_, ?_⟩
        · simp only [Array.getD_eq_getD_getElem?] at hb ⊢
          rw [Array.getElem?_eq_getElem (by omega)] at hb ⊢
          simpa using hb
        · intro e he
          rcases hbe : Region.binds .any e with _ | _
          · simp
          · have hlt := D.on i ops[i] (by simp) e (by simpa using he) hbe
            simp [ih e.on hlt (by omega)]
      rw [h] at hm; simp at hm
    · rfl

theorem adraw_sound {W0 : World} (hmix : P.follows .mixedOrders = true) {call : ACall} (hcall : CallOK P G W0 call) {ops : Array Oper} (hops : ops.toList.all (operOK G) = true) (hD : drawOK P ops = true) {s s' : St}
    (h : adraw P call ops (List.range ops.size) s [] [] = some s') {ρ : Rho} {w : World} {a : Act} (H : HRel G ρ s.h w) (K : Kept G W0 w) (ht : LRel ρ s.t a.tmps.toList) (id : Nat) (b : Frame) (k : List Item) (cs : List Frame) :
    ∃ (ρ' : Rho) (a' : Act) (w' : World), HRel G ρ' s'.h w' ∧ LRel ρ' s'.t a'.tmps.toList ∧ a'.defers = a.defers ∧ Fr ρ s.h w ρ' s'.h w' ∧
      Steps P (lone (b.atR a (.code (.region id ops true) :: k)) cs w) (lone (b.atR a' k) cs w') := by
  have D := drawOK_spec hD
  rw [List.range_eq_range'] at h
  obtain ⟨T, Hh, V, t1, t2, t3, t4, tr, _, _⟩ := adraw_trace _ _ h
  simp only [Nat.zero_add] at t3 t4 tr
  generalize hn : ops.size = n at *
  -- the schedule, from a state in its middle
  have go : ∀ (fuel t : Nat) (listed : Array Bool) (ρ1 : Rho) (a1 : Act) (w1 : World), listed.size = n → left n listed ≤ fuel → Mid P G W0 call ops n T Hh V (fun j => listed.getD j false) ρ1 a1 w1 → a1.defers = a.defers →
      (∃ m, m ≤ n ∧ Cond P ops n T (fun j => listed.getD j false) m ∧ Fr ρ (Hh 0) w ρ1 (Hh m) w1) →
      ∃ (ρ' : Rho) (a' : Act) (w' : World), HRel G ρ' (Hh n) w' ∧ LRel ρ' (T n) a'.tmps.toList ∧ a'.defers = a.defers ∧ Fr ρ (Hh 0) w ρ' (Hh n) w' ∧
        Steps P (lone (b.atR a1 (.inRegion ops (Region.linearise.go .any ops fuel t listed []) :: k)) cs w1) (lone (b.atR a' k) cs w') := by
    -- where nothing is left
    have fin : ∀ (listed : Array Bool) (ρ1 : Rho) (a1 : Act) (w1 : World), (∀ i, i < n → listed.getD i false = true) → Mid P G W0 call ops n T Hh V (fun j => listed.getD j false) ρ1 a1 w1 → a1.defers = a.defers →
        (∃ m, m ≤ n ∧ Cond P ops n T (fun j => listed.getD j false) m ∧ Fr ρ (Hh 0) w ρ1 (Hh m) w1) →
        ∃ (ρ' : Rho) (a' : Act) (w' : World), HRel G ρ' (Hh n) w' ∧ LRel ρ' (T n) a'.tmps.toList ∧ a'.defers = a.defers ∧ Fr ρ (Hh 0) w ρ' (Hh n) w' ∧
          Steps P (lone (b.atR a1 (.inRegion ops [] :: k)) cs w1) (lone (b.atR a' k) cs w') := by
      intro listed ρ1 a1 w1 hall M hdf hF
      have cn : Cond P ops n T (fun j => listed.getD j false) n := fun j o hj _ _ _ => ⟨fun _ => hj, fun _ => hall j hj⟩
      obtain ⟨m, hm, HH, hc⟩ := M.heap
      obtain ⟨m2, hm2, hc2, F⟩ := hF
      have e1 : Hh m = Hh n := Cond.heap tr hm (Nat.le_refl _) hc cn
      have e2 : Hh m2 = Hh n := Cond.heap tr hm2 (Nat.le_refl _) hc2 cn
      have e3 : slotsOf ops V (T 0) (fun j => listed.getD j false) n = T n := by
        rw [← slots_trace tr n n (Nat.le_refl _) (Nat.le_refl _)]
        apply List.ext_getElem?
        intro q
        exact slotsOf_congr n (fun j hj _ => by rw [hall j hj]; simp [hj])
      refine ⟨ρ1, a1, w1, by rw [← e1]; exact HH, by rw [← e3]; exact M.slots, hdf, by rw [← e2]; exact F, .one stepR_region_end⟩
    intro fuel
    induction fuel with
    | zero =>
      intro t listed ρ1 a1 w1 hls hleft M hdf hF
      simp only [Region.linearise.go, List.reverse_nil]
      refine fin listed ρ1 a1 w1 (fun i hi => ?_) M hdf hF
      have h0 : left n listed = 0 := by omega
      unfold left at h0
      rw [List.length_eq_zero_iff, List.filter_eq_nil_iff] at h0
      have := h0 i (List.mem_range.2 hi)
      simpa using this
    | succ fuel ih =>
      intro t listed ρ1 a1 w1 hls hleft M hdf hF
      have hgo : Region.linearise.go .any ops (fuel + 1) t listed [] = match (Region.ready .any ops listed)[t % (Region.ready .any ops listed).length]? with
          | some i => Region.linearise.go .any ops fuel (t / (Region.ready .any ops listed).length) (listed.setIfInBounds i true) [i]
          | none => [] := rfl
      rw [hgo]
      cases hi : (Region.ready .any ops listed)[t % (Region.ready .any ops listed).length]? with
      | none =>
        simp only []
        refine fin listed ρ1 a1 w1 (ready_nil hn hls D ?_) M hdf hF
        cases hr : Region.ready .any ops listed with
        | nil => rfl
        | cons x xs =>
          rw [hr] at hi
          have hlt : t % (x :: xs).length < (x :: xs).length := Nat.mod_lt _ (by simp)
          rw [List.getElem?_eq_getElem hlt] at hi
          simp at hi
      | some i =>
        simp only []
        rw [linearise_go_acc, List.reverse_singleton, List.singleton_append]
        obtain ⟨hin, hS, o, ho, hd⟩ := ready_spec hn hls (List.mem_of_getElem? hi)
        obtain ⟨ρ2, a2, w2, M2, hdf2, _, ⟨m, m', hm, hm', F2, _, _, c1, c2⟩, hst⟩ := M.one hcall hops hn hls D tr hin ho hS hd b k cs (Region.linearise.go .any ops fuel (t / (Region.ready .any ops listed).length) (listed.setIfInBounds i true) [])
        obtain ⟨m0, hm0, c0, F0⟩ := hF
        have e0 : Hh m0 = Hh m := Cond.heap tr hm0 hm c0 c1
        rw [e0] at F0
        obtain ⟨ρ', a', w', q1, q2, q3, q4, q5⟩ := ih (t / (Region.ready .any ops listed).length) (listed.setIfInBounds i true) ρ2 a2 w2 (by simpa using hls) (by have := left_set hls hin hS; omega) M2 (hdf2.trans hdf) ⟨m', hm', c2, F0.trans F2⟩
        exact ⟨ρ', a', w', q1, q2, q3, q4, hst.trans q5⟩
  have hgetF : ∀ j, (Array.replicate n false).getD j false = false := by
    intro j
    simp only [Array.getD_eq_getD_getElem?, Array.getElem?_replicate]
    split <;> rfl
  have hslots : slotsOf ops V (T 0) (fun j => (Array.replicate n false).getD j false) n = T 0 := by
    have : ∀ m, slotsOf ops V (T 0) (fun j => (Array.replicate n false).getD j false) m = T 0 := by
      intro m
      induction m with
      | zero => rfl
      | succ m ih =>
        simp only [slotsOf]
        rw [if_neg (by rw [hgetF]; simp)]
        exact ih
    exact this n
  have c0 : Cond P ops n T (fun j => (Array.replicate n false).getD j false) 0 := fun j o hj _ _ _ => ⟨fun e => absurd ((hgetF j).symm.trans e) (by simp), fun e => by omega⟩
  obtain ⟨ρ', a', w', q1, q2, q3, q4, q5⟩ := go n (w.tape w.drawn (.order b.fn id)) (Array.replicate n false) ρ a w.drew (by simp) (by unfold left; have := List.length_filter_le (fun i => !(Array.replicate n false).getD i false) (List.range n); simp only [List.length_range] at this; exact this)
    ⟨by rw [hslots, t1]; exact ht, ⟨0, by omega, by rw [t2]; exact H.drew, c0⟩, K, fun j o _ _ hS => absurd ((hgetF j).symm.trans hS) (by simp)⟩ rfl ⟨0, by omega, c0, by rw [t2]; exact Fr.drew ρ s.h w⟩
  refine ⟨ρ', a', w', by rw [← t4]; exact q1, by rw [← t3]; exact q2, q3, by rw [← t4, ← t2]; exact q4, .head stepR_region_draw ?_⟩
  have : Region.schedule (P.follows .mixedOrders) ops (w.tape w.drawn (.order b.fn id)) = Region.linearise.go .any ops n (w.tape w.drawn (.order b.fn id)) (Array.replicate n false) [] := by
    unfold Region.schedule
    rw [hmix]
    simp only [Bool.true_or, if_true, Region.linearise, hn]
  rw [this]
  exact q5

theorem aregion_sound {W0 : World} (hmix : P.follows .mixedOrders = true) {call : ACall} (hcall : CallOK P G W0 call) {ops : Array Oper} (hops : ops.toList.all (operOK G) = true) {draw : Bool} {s s' : St}
    (h : aregion P call ops draw s = some s') {ρ : Rho} {w : World} {a : Act} (H : HRel G ρ s.h w) (K : Kept G W0 w) (ht : LRel ρ s.t a.tmps.toList) (id : Nat) (b : Frame) (k : List Item) (cs : List Frame) :
    ∃ (ρ' : Rho) (a' : Act) (w' : World), HRel G ρ' s'.h w' ∧ LRel ρ' s'.t a'.tmps.toList ∧ a'.defers = a.defers ∧ Fr ρ s.h w ρ' s'.h w' ∧
      Steps P (lone (b.atR a (.code (.region id ops draw) :: k)) cs w) (lone (b.atR a' k) cs w') := by
  unfold aregion at h
  split at h
  · rename_i hd
    rw [hd]
    split at h
    · rename_i hD
      exact adraw_sound hmix hcall hops hD h H K ht id b k cs
    · simp at h
  · rename_i hd
    have hd' : draw = false := by simpa using hd
    rw [hd']
    obtain ⟨ρ', a', w', q1, q2, q3, q4, q5⟩ := aops_sound hcall hops _ h H K ht b k cs
    exact ⟨ρ', a', w', q1, q2, q3, q4, .head stepR_region q5⟩
end Go.AM
