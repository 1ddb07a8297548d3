/-
  FlagMakes: the walk of the law (the great seat's numbers).
-/
import Derived.Test.YtpbmpdocgplhpaaGreatDoorMksPl
import Derived.Test.YtpbmpdocgplhpaaGreatDoorEas
import Derived.Test.YtpbmpdocgplhpaaGreatDoorRefuse
import Derived.Test.YtpbmpdocgplhpaaGreatDoorRgPl2
import Derived.Test.YtpbmpdocgplhpaaGreatDoorKnS
import Derived.Test.YtpbmpdocgplhpaaGreatDoorCode
set_option linter.unusedSimpArgs false
set_option linter.unusedVariables false
set_option maxRecDepth 100000
namespace Go.Proofs.YtpbmpdocgplhpaaGreatDoor
open Go Go.AM

theorem make_even {X : Ext} (hX : X 12 = none) (hX49 : X 37 = none) (k n : Nat) (hin : inRange k n = true) (hev : n % 2 = 0) (h : AHeap) : Ca Tryz.prog X (.fn 12) [I k, I n] h (fun v h' => v = .tuple #[.slice none 0 0, I 1] ∧ h' = h) := by
  have c := open_nil hX49 k n h
  rw [hin] at c
  have hmod : ((Int.tmod (n : Int) 2) == 0) = true := by
    rw [Int.tmod_eq_emod_of_nonneg (by omega), beq_iff_eq]; omega
  refine Ca_fn (fn := Tryz.f12) (c := Tryz.f12.body.getD .skip) hX (by kernel_rfl) (by kernel_rfl) (by kernel_rfl) ?_
  refine Run 1000 ?_
  refine Fin_call 37 [I k, I n, .slice none 0 0] (by kernel_rfl) (by kernel_rfl) c (fun v2 hh2 hv2 => ?_)
  obtain ⟨rfl, rfl⟩ := hv2
  refine RunA 1000 1 ?_
  refine Fin_cB true (Eq.trans (b := .bool ((Int.tmod (n : Int) 2) == 0)) (by kernel_rfl) (by rw [hmod])) ?_
  refine RunA 1000 3 ?_
  exact Fin_r (by kernel_rfl) ⟨Or.inr rfl, .tuple #[.slice none 0 0, I 1], by kernel_rfl, rfl, rfl⟩

/-- What the plain law tells of a made code. -/
structure MksOK (k n : Nat) (M : List ByteArray) : Prop where
  words : ∀ w ∈ ringsF k n, asciiB w = true ∧ w.size < 1000000 ∧ goodGo 4 (Lib.charsB w) = true
  code : codeF k n M = true
  free : freeF M = true
  len : M.length = (ringsL k n).length
  turns : ∀ w ∈ M, 0 < (rTurnsTo w w.size).length
  firsts : textsF (firstsM M) ((allM k n).filter rRingOK) = true
theorem mks_facts {k n : Nat} (h : mksOK k n = true) : MksOK k n (madeF (ringsF k n)) := by
  unfold mksOK at h
  rw [← madeF_eq] at h
  simp only [Bool.and_eq_true, Nat.beq_eq, List.all_eq_true] at h
  obtain ⟨h1, ⟨⟨⟨h2, h3⟩, h4⟩, h5⟩, h6⟩ := h
  refine ⟨fun w hw => ?_, h2, freeN_free h3, h4, fun w hw => Nat.le_of_ble_eq_true (h5 w hw), h6⟩
  have := h1 w hw
  unfold wordOK at this
  simp only [Bool.and_eq_true, decide_eq_true_eq] at this
  exact ⟨this.1.1, this.1.2, this.2⟩
theorem firsts_length (M : List ByteArray) : (firstsM M).length = M.length := by
  unfold firstsM
  have : ∀ (M : List ByteArray) (F : List ByteArray), (M.foldl (fun F w => withS F (rt0 w)) F).length = F.length + M.length := by
    intro M
    induction M with
    | nil => intro F; rfl
    | cons w M ih =>
      intro F
      rw [List.foldl_cons, ih, List.length_cons]
      unfold withS
      rw [putAt_length _ _ _ (before_le F (rt0 w))]
      omega
  rw [this]; simp
theorem firsts_succ (M : List ByteArray) (i : Nat) (hi : i < M.length) : firstsM (M.take (i + 1)) = withS (firstsM (M.take i)) (rt0 M[i]) := by
  unfold firstsM
  rw [List.take_succ_eq_append_getElem hi, List.foldl_append]; rfl

theorem mk_loop {Q : AExit → FS → Prop} (k n : Int) (r : Nat) (hr : r < 2) (h0 : AHeap) (aM : Option Addr) (kM : Nat) (M : List ByteArray) (sM : Strs h0 aM M) (aR : Option Addr) (kR : Nat) (RR : List ByteArray) (sR : Strs h0 aR RR)
    (hM : M.length < 10000) (hsz : ∀ w ∈ M, w.size < 1000) (hT : ∀ w ∈ M, 0 < (rTurnsTo w w.size).length) (ht : textsF (firstsM M) RR = true)
    (K : ∀ f' h', Knows f' [(0, I (norm 4 k)), (1, I (norm 5 n)), (5, I (r + 1 : Nat))] → Fin Tryz.prog AX5 none Tryz.f4.ntmps (lpN Tryz.f4 0) .normal ⟨f', h'⟩ Q) :
    ∀ (t i : Nat) (f : Nat → Value) (h : AHeap) (v : Value), i + t = M.length → Acc h0 h v (firstsM (M.take i)) →
    Knows f [(0, I k), (1, I n), (5, I r), (6, .slice aM M.length kM), (8, .slice aR RR.length kR), (9, v), (10, I i)] →
    Fin Tryz.prog AX5 none Tryz.f4.ntmps (lpN Tryz.f4 1) .normal ⟨f, h⟩ Q := by
  intro t
  induction t with
  | zero =>
    intro i f h v hi A hf
    rw [List.take_of_length_le (by omega)] at A
    obtain ⟨a, kk, rfl, sF⟩ := A.as_strs
    have c19 := texts_spec (X := AX5) (by kernel_rfl) h a aR kk kR (firstsM M) RR (by rw [firsts_length]; omega) sF (sR.grow A.grew)
    rw [ht] at c19
    refine Fin_known _ hf ?_
    refine Fin_unrl ?_
    refine Run 1000 ?_
    refine Fin_c ((i : Int) < M.length) (by kernel_rfl) (fun h1 => by omega) (fun h1 => ?_)
    refine Run 1000 ?_
    refine Fin_call 19 [.slice a (firstsM M).length kk, .slice aR RR.length kR] (by kernel_rfl) (by kernel_rfl) c19 (fun v2 h2 hv2 => ?_)
    obtain ⟨rfl, rfl⟩ := hv2
    refine RunA 1000 2 ?_
    refine Fin_call 20 [I k, I n] (by kernel_rfl) (by kernel_rfl) (kn_spec (X := AX5) (by kernel_rfl) k n h2) (fun v3 h3 hv3 => ?_)
    obtain ⟨rfl, rfl⟩ := hv3
    refine Run 1000 ?_
    refine Fin_goto (lpN Tryz.f4 0) h3 [(0, I (norm 4 k)), (1, I (norm 5 n)), (5, I (IntKind.wrap .i64 ((r : Int) + 1)))] (by kernel_rfl) rfl (by kernel_rfl) (fun f' hf' => ?_)
    rw [wrap_next hr (by omega)] at hf'
    exact K f' h3 hf'
  | succ t ih =>
    intro i f h v hi A hf
    have hlt : i < M.length := by omega
    have A0 := A
    obtain ⟨a, kk, rfl, sF⟩ := A.as_strs
    obtain ⟨b, o, rfl, hld⟩ := (sM.grow A.grew).at hlt
    obtain ⟨w, ew⟩ : ∃ w, w = M[i] := ⟨_, rfl⟩
    rw [← ew] at hld
    have hmem : w ∈ M := by rw [ew]; exact List.getElem_mem hlt
    have hw := hsz w hmem
    have hTw := hT w hmem
    obtain ⟨u, eu⟩ : ∃ u, (rTurnsTo w w.size)[0]? = some u := ⟨_, List.getElem?_eq_getElem hTw⟩
    have eu2 : rt0 w = u := by unfold rt0; rw [List.getD_eq_getElem?_getD, eu]; rfl
    have hsucc : firstsM (M.take (i + 1)) = withS (firstsM (M.take i)) u := by rw [firsts_succ M i hlt, ← ew, eu2]
    have hFl : (firstsM (M.take i)).length < 1000000 := by rw [firsts_length, List.length_take]; omega
    refine Fin_known _ hf ?_
    refine Fin_unrl ?_
    refine Run 1000 ?_
    refine Fin_c ((i : Int) < M.length) (by kernel_rfl) (fun h1 => ?_) (fun h1 => by omega)
    refine Run 1000 ?_
    refine IdxA 27 b o 1 M.length kM .i64 i (by kernel_rfl) (by kernel_rfl) ti22 rfl ti9 rfl (by omega) (by omega) ?_
    refine Run 1000 ?_
    refine Load 9 (.pointer (some ⟨b, o + (i : Int).toNat * 1, none⟩)) (.string w) (by kernel_rfl) (by kernel_rfl) (by simpa using hld) ?_
    refine Run 1000 ?_
    refine Fin_call 18 [.string w] (by kernel_rfl) (by kernel_rfl) (rturns_spec (X := AX5) (by kernel_rfl) (by kernel_rfl) w (by omega) h) (fun v6 h6 A6 => ?_)
    have G6 := A6.grew
    obtain ⟨b7, hb7, rfl, hr7⟩ := A6.row hTw
    refine Run 1000 ?_
    refine IdxA 27 b7 0 1 (rTurnsTo w w.size).length ((rTurnsTo w w.size).length + 1) .i64 0 (by kernel_rfl) (by kernel_rfl) ti22 rfl ti9 rfl (by omega) (by omega) ?_
    refine Run 1000 ?_
    refine Load 9 (.pointer (some ⟨b7, 0 + (0 : Int).toNat * 1, none⟩)) (.string u) (by kernel_rfl) (by kernel_rfl) (load_str hr7 (by simp) eu) ?_
    refine Run 1000 ?_
    refine Fin_call 17 [.slice a (firstsM (M.take i)).length kk, .string u] (by kernel_rfl) (by kernel_rfl) (with_spec (X := AX5) (by kernel_rfl) h6 a kk (firstsM (M.take i)) u hFl (sF.grow G6)) (fun v9 h9 A9 => ?_)
    rw [← hsucc] at A9
    refine Run 1000 ?_
    refine Fin_goto (lpN Tryz.f4 1) h9 [(0, I k), (1, I n), (5, I r), (6, .slice (some ⟨b, o, some 1⟩) M.length kM), (8, .slice aR RR.length kR), (9, v9), (10, I (IntKind.wrap .i64 ((i : Int) + 1)))] (by kernel_rfl) rfl (by kernel_rfl) (fun f' hf' => ?_)
    rw [wrap_next hlt (by omega)] at hf'
    exact ih (i + 1) f' h9 v9 (by omega) (Acc.trans (A0.grew.trans G6) A9) hf'

set_option maxHeartbeats 1000000 in
/-- One round of the law. -/
theorem mk_next {Q : AExit → FS → Prop} (k n : Int) (r : Nat) (hr : r < 2) (hok : ∀ a b : Nat, inRange a b = true → b % 2 = 1 → mksOK a b = true) (h : AHeap)
    (K : ∀ f' h', Knows f' [(0, I (norm 4 k)), (1, I (norm 5 n)), (5, I (r + 1 : Nat))] → Fin Tryz.prog AX5 none Tryz.f4.ntmps (lpN Tryz.f4 0) .normal ⟨f', h'⟩ Q) :
    ∀ f, Knows f [(0, I k), (1, I n), (5, I r)] → Fin Tryz.prog AX5 none Tryz.f4.ntmps (lpN Tryz.f4 0) .normal ⟨f, h⟩ Q := by
  intro f hf
  have rgs : ∀ (b : Bool), inRange k n = b → ∀ h, Ca Tryz.prog AX5 (.fn 13) [I k, I n] h (fun v h' => v = .bool b ∧ h' = h) := by
    intro b hb h; rw [← hb]; exact range_spec (by kernel_rfl) k n h
  have kns : ∀ h, Ca Tryz.prog AX5 (.fn 20) [I k, I n] h (fun v h' => v = .tuple #[I (norm 4 k), I (norm 5 n)] ∧ h' = h) := fun h => kn_spec (X := AX5) (by kernel_rfl) k n h
  refine Fin_known _ hf ?_
  refine Fin_unrl ?_
  refine Run 1000 ?_
  refine Fin_c ((r : Int) < 2) (by kernel_rfl) (fun h1 => ?_) (fun h1 => by omega)
  refine Run 1000 ?_
  cases hin : inRange k n with
  | false =>
    refine Fin_call 12 [I k, I n] (by kernel_rfl) (by kernel_rfl) (make_no (X := AX5) (by kernel_rfl) (by kernel_rfl) k n hin h) (fun v2 h2 hv2 => ?_)
    obtain ⟨rfl, rfl⟩ := hv2
    refine Run 1000 ?_
    refine Fin_call 13 [I k, I n] (by kernel_rfl) (by kernel_rfl) (rgs false hin h2) (fun v3 h3 hv3 => ?_)
    obtain ⟨rfl, rfl⟩ := hv3
    refine RunA 1000 20 ?_
    refine Fin_call 20 [I k, I n] (by kernel_rfl) (by kernel_rfl) (kns h3) (fun v4 h4 hv4 => ?_)
    obtain ⟨rfl, rfl⟩ := hv4
    refine Run 1000 ?_
    refine Fin_goto (lpN Tryz.f4 0) h4 [(0, I (norm 4 k)), (1, I (norm 5 n)), (5, I (IntKind.wrap .i64 ((r : Int) + 1)))] (by kernel_rfl) rfl (by kernel_rfl) (fun f' hf' => ?_)
    rw [wrap_next hr (by omega)] at hf'
    exact K f' h4 hf'
  | true =>
    obtain ⟨i1, i2, i3, i4⟩ := inRange_iff.1 hin
    obtain ⟨k', rfl⟩ : ∃ k' : Nat, k = k' := ⟨k.toNat, by omega⟩
    obtain ⟨n', rfl⟩ : ∃ n' : Nat, n = n' := ⟨n.toNat, by omega⟩
    by_cases hev : n' % 2 = 0
    · have hmod : ((Int.tmod (n' : Int) 2) == 0) = true := by
        rw [Int.tmod_eq_emod_of_nonneg (by omega), beq_iff_eq]; omega
      refine Fin_call 12 [I k', I n'] (by kernel_rfl) (by kernel_rfl) (make_even (X := AX5) (by kernel_rfl) (by kernel_rfl) k' n' hin hev h) (fun v2 h2 hv2 => ?_)
      obtain ⟨rfl, rfl⟩ := hv2
      refine Run 1000 ?_
      refine Fin_call 13 [I k', I n'] (by kernel_rfl) (by kernel_rfl) (rgs true hin h2) (fun v3 h3 hv3 => ?_)
      obtain ⟨rfl, rfl⟩ := hv3
      refine RunA 1000 1 ?_
      refine Fin_cB true (Eq.trans (b := .bool ((Int.tmod (n' : Int) 2) == 0)) (by kernel_rfl) (by rw [hmod])) ?_
      refine RunA 1000 20 ?_
      refine Fin_call 20 [I k', I n'] (by kernel_rfl) (by kernel_rfl) (kns h3) (fun v4 h4 hv4 => ?_)
      obtain ⟨rfl, rfl⟩ := hv4
      refine Run 1000 ?_
      refine Fin_goto (lpN Tryz.f4 0) h4 [(0, I (norm 4 k')), (1, I (norm 5 n')), (5, I (IntKind.wrap .i64 ((r : Int) + 1)))] (by kernel_rfl) rfl (by kernel_rfl) (fun f' hf' => ?_)
      rw [wrap_next hr (by omega)] at hf'
      exact K f' h4 hf'
    · have hmod : ((Int.tmod (n' : Int) 2) == 0) = false := by
        rw [Int.tmod_eq_emod_of_nonneg (by omega), Bool.eq_false_iff]; intro e; rw [beq_iff_eq] at e; omega
      have m := mks_facts (hok k' n' hin (by omega))
      obtain ⟨M, eM⟩ : ∃ M, M = madeF (ringsF k' n') := ⟨_, rfl⟩
      have c12 := make_spec makeX5 k' n' hin (by omega) m.words h
      rw [← eM] at c12 m
      have hlen : (ringsL k' n').length < 10000 := by
        have h81 : ∀ k : Fin 5, ∀ n : Fin 6, (wordsL k n).length < 10000 := by decide +kernel
        exact Nat.lt_of_le_of_lt (List.length_filter_le _ _) (h81 ⟨k', by omega⟩ ⟨n', by omega⟩)
      have hMl : M.length < 10000 := by rw [m.len]; exact hlen
      obtain ⟨w1, w2, _⟩ := code_to m.code
      obtain ⟨RR, eR⟩ : ∃ RR, RR = (allM k' n').filter rRingOK := ⟨_, rfl⟩
      have c14 : ∀ h, Ca Tryz.prog AX5 (.fn 14) [I k', I n'] h (fun v h' => Acc h h' v RR) := by
        intro h; rw [eR]; exact rrings_spec (X := AX5) ⟨by kernel_rfl, by kernel_rfl, by kernel_rfl, by kernel_rfl, by kernel_rfl⟩ k' n' (by omega) (by omega) (by omega) h
      have hRl : RR.length = M.length := by
        have h1 := m.firsts
        rw [← eR] at h1
        unfold textsF at h1
        rw [Bool.and_eq_true, beq_iff_eq, firsts_length] at h1
        exact h1.1.symm
      have hfirsts := m.firsts
      rw [← eR] at hfirsts
      refine Fin_call 12 [I k', I n'] (by kernel_rfl) (by kernel_rfl) c12 (fun v2 h2 hv2 => ?_)
      obtain ⟨v, rfl, g1, _⟩ := hv2
      obtain ⟨a, kk, rfl, s1⟩ := g1.strs
      refine Run 1000 ?_
      refine Fin_call 13 [I k', I n'] (by kernel_rfl) (by kernel_rfl) (rgs true hin h2) (fun v3 h3 hv3 => ?_)
      obtain ⟨rfl, rfl⟩ := hv3
      refine RunA 1000 1 ?_
      refine Fin_cB false (Eq.trans (b := .bool ((Int.tmod (n' : Int) 2) == 0)) (by kernel_rfl) (by rw [hmod])) ?_
      refine Run 1000 ?_
      refine Fin_call 14 [I k', I n'] (by kernel_rfl) (by kernel_rfl) (c14 h3) (fun v4 h4 A4 => ?_)
      have G4 := A4.grew
      obtain ⟨aR, kR, rfl, sR⟩ := A4.as_strs
      have s4 := s1.grow G4
      refine RunA 1000 1 ?_
      refine Fin_gB false (by kernel_rfl) (Eq.trans (b := .bool (!((M.length : Int) == (RR.length : Int)))) (by kernel_rfl) (by rw [hRl, beq_self_eq_true]; rfl)) ?_
      refine RunA 1000 1 ?_
      refine Fin_call 15 [I k', I n', .slice a M.length kk] (by kernel_rfl) (by kernel_rfl) (by
        have c := code_spec (X := AX5) (by kernel_rfl) (by kernel_rfl) h4 a kk M (by omega) s4 k' n' (by omega) (by omega)
        rw [m.code] at c; exact c) (fun v5 h5 hv5 => ?_)
      obtain ⟨rfl, rfl⟩ := hv5
      refine RunA 1000 1 ?_
      refine Fin_call 16 [.slice a M.length kk] (by kernel_rfl) (by kernel_rfl) (by
        have c := free_spec (X := AX5) h5 a kk M n' (by kernel_rfl) (by omega) s4 (fun w hw => (w1 w hw).1) (by omega) (by omega)
        rw [m.free] at c; exact c) (fun v6 h6 hv6 => ?_)
      obtain ⟨rfl, rfl⟩ := hv6
      refine RunA 1000 1 ?_
      refine Fin_goto (lpN Tryz.f4 1) h6 [(0, I k'), (1, I n'), (5, I r), (6, .slice a M.length kk), (8, .slice aR RR.length kR), (9, .slice none 0 0), (10, I (0 : Nat))] (by kernel_rfl) rfl (by kernel_rfl) (fun f' hf' => ?_)
      exact mk_loop k' n' r hr h6 a kk M s4 aR kR RR sR hMl (fun w hw => by rw [(w1 w hw).1]; omega) m.turns hfirsts K M.length 0 f' h6 _ (by omega) (Acc.nil h6) hf'
theorem mk_true (hok : ∀ a b : Nat, inRange a b = true → b % 2 = 1 → mksOK a b = true) (k n : Int) : Ca Tryz.prog AX5 (.fn 4) [I k, I n] H0 (fun v _ => v = .bool true) := by
  refine Ca_fn (fn := Tryz.f4) (c := Tryz.f4.body.getD .skip) (by kernel_rfl) (by kernel_rfl) (by kernel_rfl) (by kernel_rfl) ?_
  refine Run 1000 ?_
  refine Fin_goto (lpN Tryz.f4 0) H0 [(0, I k), (1, I n), (5, I (0 : Nat))] (by kernel_rfl) rfl (by kernel_rfl) (fun f1 hf1 => ?_)
  refine mk_next k n 0 (by omega) hok H0 (fun f2 h2 hf2 => ?_) f1 hf1
  refine mk_next (norm 4 k) (norm 5 n) 1 (by omega) hok h2 (fun f3 h3 hf3 => ?_) f2 hf2
  refine Fin_known _ hf3 ?_
  refine Fin_unrl ?_
  refine RunA 1000 1 ?_
  refine Fin_call 21 [] (by kernel_rfl) (by kernel_rfl) (awake_ca5 h3) (fun v8 h8 hv8 => ?_)
  obtain ⟨rfl, rfl⟩ := hv8
  refine RunA 1000 10 ?_
  exact Fin_r (by kernel_rfl) ⟨Or.inr rfl, .bool true, by kernel_rfl, rfl⟩
end Go.Proofs.YtpbmpdocgplhpaaGreatDoor
