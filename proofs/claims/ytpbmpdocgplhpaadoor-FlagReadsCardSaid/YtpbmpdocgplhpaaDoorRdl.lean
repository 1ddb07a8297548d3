/-
  'FlagReads', walked.
-/
import Derived.Test.YtpbmpdocgplhpaaDoorMI
import Derived.Test.YtpbmpdocgplhpaaDoorAx2
import Derived.Test.YtpbmpdocgplhpaaDoorKnS
set_option linter.unusedSimpArgs false
set_option linter.unusedVariables false
set_option maxRecDepth 100000
namespace Go.Proofs.YtpbmpdocgplhpaaDoor
open Go Go.AM

theorem readX2 : ReadX AX2 := ⟨by kernel_rfl, by kernel_rfl, by kernel_rfl, by kernel_rfl, by kernel_rfl, by kernel_rfl, by kernel_rfl, by kernel_rfl, by kernel_rfl⟩

section
variable (st : ByteArray) (k n : Nat) (a : Option Addr) (kk : Nat) (L : List ByteArray) (r : Nat)
abbrev rdSl (st : ByteArray) (k n : Nat) (a : Option Addr) (kk : Nat) (L : List ByteArray) (r : Nat) : List (Nat × Value) :=
  [(1, .string st), (5, I k), (6, I n), (7, .slice a L.length kk), (9, I r)]

theorem rem_ok {x n : Nat} (hn : 1 ≤ n) : abin Tryd.prog .rem 3 (I x) (I n) = some (I ((x % n : Nat) : Int)) := by
  have e : Int.tmod (x : Int) n = ((x % n : Nat) : Int) := by rw [Int.tmod_eq_emod_of_nonneg (by omega)]; rfl
  rw [← e]
  simp [abin, aint]; omega
set_option maxHeartbeats 1000000 in
theorem rd_t (hst : st.size ≤ 9223372036854775807) (hn1 : 1 ≤ n) (hn : n ≤ 5) (hL : L.length < 1000000) (hw : ∀ w ∈ L, w.size = n) (hr : r < 2) {Q : AExit → FS → Prop} (h0 : AHeap) (hs0 : Strs h0 a L)
    (K : ∀ f' h' s', s'.size < 1000000 → Grew h0 h' → Knows f' (rdSl st k n a kk L (r + 1) ++ [(8, .string s')]) → Fin Tryd.prog AX2 none Tryd.f4.ntmps (lpN Tryd.f4 0) .normal ⟨f', h'⟩ Q) :
    ∀ (t i : Nat) (T : ByteArray) (f : Nat → Value) (h : AHeap), i + t = 12 → T.size ≤ i * 5 → Grew h0 h → Knows f (rdSl st k n a kk L r ++ [(19, .string T), (20, I i)]) →
    Fin Tryd.prog AX2 none Tryd.f4.ntmps (lpN Tryd.f4 2) .normal ⟨f, h⟩ Q := by
  intro t
  have hmin : ∀ T : ByteArray, T.size ≤ 100 → ∃ m : Nat, m ≤ T.size ∧ (if ((st.size % n : Nat) : Int) < (T.size : Int) then ((st.size % n : Nat) : Int) else (T.size : Int)) = m := by
    intro T hT
    by_cases h : ((st.size % n : Nat) : Int) < (T.size : Int)
    · exact ⟨st.size % n, by omega, by rw [if_pos h]⟩
    · exact ⟨T.size, Nat.le_refl _, by rw [if_neg h]⟩
  induction t with
  | zero =>
    intro i T f h hi hT hG hf
    obtain ⟨m, m1, em⟩ := hmin T (by omega)
    refine Fin_known _ hf ?_
    refine Fin_unrl ?_
    refine Run 1000 ?_
    refine Fin_g ((i : Int) < st.size) (by kernel_rfl) (by kernel_rfl) (fun h1 => ?_) (fun h1 => ?_)
    · refine Run 1000 ?_
      refine Fin_g ((i : Int) < 12) (by kernel_rfl) (by kernel_rfl) (fun h2 => by omega) (fun h2 => ?_)
      refine RunA 1000 1 ?_
      refine Bin .rem 3 (I st.size) (I n) (I ((st.size % n : Nat) : Int)) (by kernel_rfl) (by kernel_rfl) (rem_ok hn1) ?_
      refine Run 1000 ?_
      refine Slic 9 (.string T) (.string (T.extract m T.size)) (some (I (if ((st.size % n : Nat) : Int) < (T.size : Int) then ((st.size % n : Nat) : Int) else (T.size : Int)))) none none (by kernel_rfl) (by kernel_rfl) (by rw [em]; exact slice_from T m m1) ?_
      refine Run 1000 ?_
      refine Fin_goto (lpN Tryd.f4 0) h ([(1, .string st), (5, I k), (6, I n), (7, .slice a L.length kk), (9, I (IntKind.wrap .i64 ((r : Int) + 1)))] ++ [(8, .string (T.extract m T.size))]) (by kernel_rfl) rfl (by kernel_rfl) (fun f' hf' => ?_)
      rw [wrap_next hr (by omega)] at hf'
      exact K f' h _ (by simp; omega) hG hf'
    · refine RunA 1000 2 ?_
      refine Bin .rem 3 (I st.size) (I n) (I ((st.size % n : Nat) : Int)) (by kernel_rfl) (by kernel_rfl) (rem_ok hn1) ?_
      refine Run 1000 ?_
      refine Slic 9 (.string T) (.string (T.extract m T.size)) (some (I (if ((st.size % n : Nat) : Int) < (T.size : Int) then ((st.size % n : Nat) : Int) else (T.size : Int)))) none none (by kernel_rfl) (by kernel_rfl) (by rw [em]; exact slice_from T m m1) ?_
      refine Run 1000 ?_
      refine Fin_goto (lpN Tryd.f4 0) h ([(1, .string st), (5, I k), (6, I n), (7, .slice a L.length kk), (9, I (IntKind.wrap .i64 ((r : Int) + 1)))] ++ [(8, .string (T.extract m T.size))]) (by kernel_rfl) rfl (by kernel_rfl) (fun f' hf' => ?_)
      rw [wrap_next hr (by omega)] at hf'
      exact K f' h _ (by simp; omega) hG hf'
  | succ t ih =>
    intro i T f h hi hT hG hf
    obtain ⟨m, m1, em⟩ := hmin T (by omega)
    refine Fin_known _ hf ?_
    refine Fin_unrl ?_
    refine Run 1000 ?_
    refine Fin_g ((i : Int) < st.size) (by kernel_rfl) (by kernel_rfl) (fun h1 => ?_) (fun h1 => ?_)
    · refine Run 1000 ?_
      refine Fin_g ((i : Int) < 12) (by kernel_rfl) (by kernel_rfl) (fun h2 => ?_) (fun h2 => by omega)
      refine Run 1000 ?_
      refine Fin_c ((L.length : Int) > 0) (by kernel_rfl) (fun h3 => ?_) (fun h3 => ?_)
      · obtain ⟨c, hat⟩ : ∃ c, st[(i : Int).toNat]? = some c := ⟨_, byte_at st i (by omega)⟩
        have hlt : c.toNat % L.length < L.length := Nat.mod_lt _ (by omega)
        obtain ⟨b, o, rfl, hld⟩ := (hs0.grow hG).at hlt
        obtain ⟨w, ew⟩ : ∃ w, w = L[c.toNat % L.length] := ⟨_, rfl⟩
        have hwn : w.size = n := by rw [ew]; exact hw _ (List.getElem_mem hlt)
        rw [← ew] at hld
        refine Run 1000 ?_
        refine IdxS 9 st .i64 i c (by kernel_rfl) (by kernel_rfl) ti9 rfl (by omega) hat ?_
        have hcw : IntKind.wrap .i64 (c.toNat : Int) = (c.toNat : Int) := wrap_small (by omega) (by have := c.toNat_lt; omega)
        refine Run 1000 ?_
        refine Bin .rem 3 (I (IntKind.wrap .i64 (c.toNat : Int))) (I L.length) (I ((c.toNat % L.length : Nat) : Int)) (by kernel_rfl) (by kernel_rfl) (by rw [hcw]; exact rem_ok (by omega)) ?_
        refine Run 1000 ?_
        refine IdxA 22 b o 1 L.length kk .i64 ((c.toNat % L.length : Nat) : Int) (by kernel_rfl) (by kernel_rfl) ti22 rfl ti9 rfl (by omega) (by omega) ?_
        refine Run 1000 ?_
        refine Load 9 (.pointer (some ⟨b, o + ((c.toNat % L.length : Nat) : Int).toNat * 1, none⟩)) (.string w) (by kernel_rfl) (by kernel_rfl) hld ?_
        refine Run 1000 ?_
        refine Bin .add 9 (.string T) (.string w) (.string (T ++ w)) (by kernel_rfl) (by kernel_rfl) (add_str _ _ (by omega)) ?_
        refine Run 1000 ?_
        refine Fin_goto (lpN Tryd.f4 2) h ([(1, .string st), (5, I k), (6, I n), (7, .slice (some ⟨b, o, some 1⟩) L.length kk), (9, I r)] ++ [(19, .string (T ++ w)), (20, I (IntKind.wrap .i64 ((i : Int) + 1)))]) (by kernel_rfl) rfl (by kernel_rfl) (fun f' hf' => ?_)
        rw [wrap_next (n := 13) (by omega) (by omega)] at hf'
        exact ih (i + 1) (T ++ w) f' h (by omega) (by rw [ByteArray.size_append]; omega) hG hf'
      · refine Run 1000 ?_
        refine Bin .rem 3 (I st.size) (I n) (I ((st.size % n : Nat) : Int)) (by kernel_rfl) (by kernel_rfl) (rem_ok hn1) ?_
        refine Run 1000 ?_
        refine Slic 9 (.string T) (.string (T.extract m T.size)) (some (I (if ((st.size % n : Nat) : Int) < (T.size : Int) then ((st.size % n : Nat) : Int) else (T.size : Int)))) none none (by kernel_rfl) (by kernel_rfl) (by rw [em]; exact slice_from T m m1) ?_
        refine Run 1000 ?_
        refine Fin_goto (lpN Tryd.f4 0) h ([(1, .string st), (5, I k), (6, I n), (7, .slice a L.length kk), (9, I (IntKind.wrap .i64 ((r : Int) + 1)))] ++ [(8, .string (T.extract m T.size))]) (by kernel_rfl) rfl (by kernel_rfl) (fun f' hf' => ?_)
        rw [wrap_next hr (by omega)] at hf'
        exact K f' h _ (by simp; omega) hG hf'
    · refine RunA 1000 2 ?_
      refine Bin .rem 3 (I st.size) (I n) (I ((st.size % n : Nat) : Int)) (by kernel_rfl) (by kernel_rfl) (rem_ok hn1) ?_
      refine Run 1000 ?_
      refine Slic 9 (.string T) (.string (T.extract m T.size)) (some (I (if ((st.size % n : Nat) : Int) < (T.size : Int) then ((st.size % n : Nat) : Int) else (T.size : Int)))) none none (by kernel_rfl) (by kernel_rfl) (by rw [em]; exact slice_from T m m1) ?_
      refine Run 1000 ?_
      refine Fin_goto (lpN Tryd.f4 0) h ([(1, .string st), (5, I k), (6, I n), (7, .slice a L.length kk), (9, I (IntKind.wrap .i64 ((r : Int) + 1)))] ++ [(8, .string (T.extract m T.size))]) (by kernel_rfl) rfl (by kernel_rfl) (fun f' hf' => ?_)
      rw [wrap_next hr (by omega)] at hf'
      exact K f' h _ (by simp; omega) hG hf'
/-- A slice of numbers, to be read. -/
def IntsAt (h : AHeap) (a : Option Addr) (L : List Int) : Prop := ∀ i (hi : i < L.length), ∃ b, a = some ⟨b, 0, some 1⟩ ∧ h[b]? = some (.row (ints L) true)
theorem AccI.at {h0 h : AHeap} {v : Value} {L : List Int} (A : AccI h0 h v L) : ∃ a kk, v = .slice a L.length kk ∧ IntsAt h a L := by
  rcases A.val with ⟨rfl, rfl⟩ | ⟨b, hb, rfl, hr⟩
  · exact ⟨_, _, rfl, fun i hi => by simp at hi⟩
  · exact ⟨_, _, rfl, fun i hi => ⟨b, rfl, hr⟩⟩
theorem IntsAt.grow {h h' : AHeap} {a : Option Addr} {L : List Int} (x : IntsAt h a L) (g : Grew h h') : IntsAt h' a L := fun i hi => by
  obtain ⟨b, e, hb⟩ := x i hi
  exact ⟨b, e, g.at hb⟩
theorem textsF_same (C : List ByteArray) : textsF C C = true := by
  unfold textsF
  rw [beq_self_eq_true, Bool.true_and]
  induction C with
  | nil => rfl
  | cons x C ih =>
    rw [List.zip_cons_cons, List.all_cons, ih, Bool.and_true]
    exact seq_iff.2 rfl
theorem ints_at (L : List Int) (i : Nat) (hi : i < L.length) : (ints L)[0 + (i : Int).toNat * 1]? = some (I L[i]) := by simp [ints, hi]

set_option maxHeartbeats 1000000 in
theorem rd_cmp (hk1 : 1 ≤ k) (hk : k ≤ 4) (hst : st.size ≤ 9223372036854775807) (hn1 : 1 ≤ n) (hn : n ≤ 5) (hL : L.length < 1000000) (hw : ∀ w ∈ L, w.size = n) (hr : r < 2) (s : ByteArray) (hs : s.size < 1000000) (M : List Int) (hM : M = readsF n L s) (ok : Bool) (hok : ok = (M.length == 1))
    (aM aN aC : Option Addr) (kM kN kC : Nat) (C : List ByteArray) (hC : C = bif ok then piecesF s n ((M.headD 0).toNat) else [])
    {Q : AExit → FS → Prop} (h0 : AHeap) (hs0 : Strs h0 a L) (hM0 : IntsAt h0 aM M) (hN0 : IntsAt h0 aN M) (hC0 : Strs h0 aC C)
    (K : ∀ f' h' s', s'.size < 1000000 → Grew h0 h' → Knows f' (rdSl st k n a kk L (r + 1) ++ [(8, .string s')]) → Fin Tryd.prog AX2 none Tryd.f4.ntmps (lpN Tryd.f4 0) .normal ⟨f', h'⟩ Q) :
    ∀ (t i : Nat) (f : Nat → Value), i + t = M.length → Knows f (rdSl st k n a kk L r ++ [(8, .string s), (10, .slice aM M.length kM), (12, .slice aC C.length kC), (13, .bool ok), (15, .slice aN M.length kN), (16, I i)]) →
    Fin Tryd.prog AX2 none Tryd.f4.ntmps (lpN Tryd.f4 1) .normal ⟨f, h0⟩ Q := by
  have hMn : M.length ≤ n := by
    rw [hM]; unfold readsF readsG; rw [List.length_map]
    exact Nat.le_trans (List.length_filter_le _ _) (by simp)
  intro t
  induction t with
  | zero =>
    intro i f hi hf
    refine Fin_known _ hf ?_
    refine Fin_unrl ?_
    refine Run 1000 ?_
    refine Fin_c ((i : Int) < M.length) (by kernel_rfl) (fun h1 => by omega) (fun h1 => ?_)
    cases hok' : ok with
    | false =>
      refine RunA 1000 1 ?_
      refine Fin_goto (lpN Tryd.f4 2) h0 ([(1, .string st), (5, I k), (6, I n), (7, .slice a L.length kk), (9, I r)] ++ [(19, .string ByteArray.empty), (20, I (0 : Nat))]) (by kernel_rfl) rfl (by kernel_rfl) (fun f' hf' => ?_)
      exact rd_t st k n a kk L r hst hn1 hn hL hw hr h0 hs0 K 12 0 _ f' h0 (by omega) (by simp) (Grew.refl _) hf'
    | true =>
      rw [hok'] at hok hC
      have h1' : M.length = 1 := by have := hok.symm; rw [beq_iff_eq] at this; exact this
      obtain ⟨z, rfl⟩ : ∃ z, M = [z] := by
        match M, h1' with
        | [z], _ => exact ⟨z, rfl⟩
      obtain ⟨p, rfl, hp, hokp⟩ := readsF_mem (n := n) (L := L) (s := s) (z := z) (by rw [← hM]; simp)
      obtain ⟨bN, rfl, hbN⟩ := hN0 0 (by simp)
      have hP := rpieces_spec (X := AX2) (by kernel_rfl) (by kernel_rfl) h0 a kk L hL hs0 s hs n hn1 (by omega) p (by omega)
      have hall : ((piecesF s n p).all fun w => isIn w L) = true := by
        unfold okAt at hokp; rw [Bool.and_eq_true] at hokp; exact hokp.2
      rw [hall] at hP
      have hCp : C = piecesF s n p := by rw [hC]; rfl
      have hlenC : C.length < 1000000 := by rw [hCp]; have := pcs_length s n hn1 (s.size + 1) p; unfold piecesF; omega
      refine RunA 1000 1 ?_
      refine IdxA 40 bN 0 1 1 kN .i64 0 (by kernel_rfl) (by kernel_rfl) ti40 rfl ti3 rfl (by omega) (by omega) ?_
      refine Run 1000 ?_
      refine Load 3 (.pointer (some ⟨bN, 0 + (0 : Int).toNat * 1, none⟩)) (I p) (by kernel_rfl) (by kernel_rfl) (load_row ti3 rfl hbN rfl) ?_
      refine Run 1000 ?_
      refine Fin_call 28 [I n, .slice a L.length kk, .string s, I p] (by kernel_rfl) (by kernel_rfl) hP (fun v11 hh11 hv11 => ?_)
      obtain ⟨v1, rfl, A1⟩ := hv11
      simp only [cond_true] at A1
      have G := A1.grew
      obtain ⟨a1, k1, rfl, st1⟩ := A1.as_strs
      rw [← hCp] at st1 ⊢
      refine Run 1000 ?_
      refine Fin_call 18 [.slice aC C.length kC, .slice a1 C.length k1] (by kernel_rfl) (by kernel_rfl) (texts_spec (by kernel_rfl) hh11 aC a1 kC k1 C C (by omega) (hC0.grow G) st1) (fun v12 hh12 hv12 => ?_)
      obtain ⟨rfl, rfl⟩ := hv12
      refine Run 1000 ?_
      refine Fin_cB false (Eq.trans (b := .bool (!(textsF C C))) (by kernel_rfl) (by rw [textsF_same]; rfl)) ?_
      refine Run 1000 ?_
      refine Fin_goto (lpN Tryd.f4 2) hh12 ([(1, .string st), (5, I k), (6, I n), (7, .slice a L.length kk), (9, I r)] ++ [(19, .string ByteArray.empty), (20, I (0 : Nat))]) (by kernel_rfl) rfl (by kernel_rfl) (fun f' hf' => ?_)
      exact rd_t st k n a kk L r hst hn1 hn hL hw hr hh12 (hs0.grow G) (fun f2 h2 s2 hs2 G2 hf2 => K f2 h2 s2 hs2 (G.trans G2) hf2) 12 0 _ f' hh12 (by omega) (by simp) (Grew.refl _) hf'
  | succ t ih =>
    intro i f hi hf
    have hlt : i < M.length := by omega
    obtain ⟨bM, rfl, hbM⟩ := hM0 i hlt
    obtain ⟨bN, rfl, hbN⟩ := hN0 i hlt
    obtain ⟨z, ez⟩ : ∃ z, z = M[i] := ⟨_, rfl⟩
    have hg := ints_at M i hlt
    rw [← ez] at hg
    refine Fin_known _ hf ?_
    refine Fin_unrl ?_
    refine Run 1000 ?_
    refine Fin_c ((i : Int) < M.length) (by kernel_rfl) (fun h1 => ?_) (fun h1 => by omega)
    refine Run 1000 ?_
    refine Draw (by kernel_rfl) ?_
    refine Run 1000 ?_
    refine IdxA 40 bM 0 1 M.length kM .i64 i (by kernel_rfl) (by kernel_rfl) ti40 rfl ti3 rfl (by omega) (by omega) ?_
    refine Run 1000 ?_
    refine Load 3 (.pointer (some ⟨bM, 0 + (i : Int).toNat * 1, none⟩)) (I z) (by kernel_rfl) (by kernel_rfl) (load_row ti3 rfl hbM hg) ?_
    refine Run 1000 ?_
    refine IdxA 40 bN 0 1 M.length kN .i64 i (by kernel_rfl) (by kernel_rfl) ti40 rfl ti3 rfl (by omega) (by omega) ?_
    refine Run 1000 ?_
    refine Load 3 (.pointer (some ⟨bN, 0 + (i : Int).toNat * 1, none⟩)) (I z) (by kernel_rfl) (by kernel_rfl) (load_row ti3 rfl hbN hg) ?_
    refine Run 1000 ?_
    refine Fin_cB false (Eq.trans (b := .bool (!(z == z))) (by kernel_rfl) (by simp)) ?_
    refine Run 1000 ?_
    refine Fin_goto (lpN Tryd.f4 1) h0 ([(1, .string st), (5, I k), (6, I n), (7, .slice a L.length kk), (9, I r)] ++ [(8, .string s), (10, .slice (some ⟨bM, 0, some 1⟩) M.length kM), (12, .slice aC C.length kC), (13, .bool ok), (15, .slice (some ⟨bN, 0, some 1⟩) M.length kN), (16, I (IntKind.wrap .i64 ((i : Int) + 1)))]) (by kernel_rfl) rfl (by kernel_rfl) (fun f' hf' => ?_)
    rw [wrap_next hlt (by omega)] at hf'
    exact ih (i + 1) f' (by omega) hf'
set_option maxHeartbeats 2000000 in
theorem rd_round (hin : inRange k n = true) (hst : st.size ≤ 9223372036854775807) (hL : L.length < 1000000) (hc : codeF k n L = true) (hw : ∀ w ∈ L, w.size = n) (hr : r < 2) (s : ByteArray) (hs : s.size < 1000000)
    {Q : AExit → FS → Prop} (h0 : AHeap) (hs0 : Strs h0 a L)
    (K : ∀ f' h' s', s'.size < 1000000 → Grew h0 h' → Knows f' (rdSl st k n a kk L (r + 1) ++ [(8, .string s')]) → Fin Tryd.prog AX2 none Tryd.f4.ntmps (lpN Tryd.f4 0) .normal ⟨f', h'⟩ Q) :
    ∀ (f : Nat → Value), Knows f (rdSl st k n a kk L r ++ [(8, .string s)]) →
    Fin Tryd.prog AX2 none Tryd.f4.ntmps (lpN Tryd.f4 0) .normal ⟨f, h0⟩ Q := by
  obtain ⟨k1, k4, n1, n5⟩ := inRange_iff.1 hin
  have hk1 : 1 ≤ k := by omega
  have hk4 : k ≤ 4 := by omega
  have hn1 : 1 ≤ n := by omega
  have hn5 : n ≤ 5 := by omega
  intro f hf
  have c24 := readsOf_spec (X := AX2) (by kernel_rfl) (by kernel_rfl) readX2 overX2 k n hin h0 a kk L hL hs0 hc s hs
  have c25 := fun h st => cutOf_spec (X := AX2) (by kernel_rfl) (by kernel_rfl) readX2 overX2 k n hin h a kk L hL st hc s hs
  have c26 := fun h => lett_spec (X := AX2) (by kernel_rfl) k hk4 s hs h
  refine Fin_known _ hf ?_
  refine Fin_unrl ?_
  refine Run 1000 ?_
  refine Fin_c ((r : Int) < 2) (by kernel_rfl) (fun h1 => ?_) (fun h1 => by omega)
  refine Run 1000 ?_
  refine Fin_call 24 [I k, I n, .slice a L.length kk, .string s] (by kernel_rfl) (by kernel_rfl) c24 (fun v2 hh2 hv2 => ?_)
  obtain ⟨v2, rfl, A2⟩ := hv2
  have G2 := A2.grew
  refine Run 1000 ?_
  refine Fin_call 25 [I k, I n, .slice a L.length kk, .string s] (by kernel_rfl) (by kernel_rfl) (c25 hh2 (hs0.grow G2)) (fun v3 hh3 hv3 => ?_)
  obtain ⟨v3, rfl, A3⟩ := hv3
  have G3 := A3.grew
  refine Run 1000 ?_
  refine Fin_call 26 [.string s, I k] (by kernel_rfl) (by kernel_rfl) (c26 hh3) (fun v4 hh4 hv4 => ?_)
  obtain ⟨rfl, rfl⟩ := hv4
  have G := G2.trans G3
  have hdef : streamOK k s = (decide (s.size ≤ 1000) && overF k s) := rfl
  have hcut : cutOK n L k s = (streamOK k s && (readsF n L s).length == 1) := rfl
  have hcutF : cutF n L k s = bif cutOK n L k s then piecesF s n ((readsF n L s).headD 0).toNat else [] := rfl
  have fin : ∀ f' : Nat → Value, Knows f' ([(1, .string st), (5, I k), (6, I n), (7, .slice a L.length kk), (9, I r)] ++ [(19, .string ByteArray.empty), (20, I (0 : Nat))]) → Fin Tryd.prog AX2 none Tryd.f4.ntmps (lpN Tryd.f4 2) .normal ⟨f', hh4⟩ Q := fun f' hf' =>
    rd_t st k n a kk L r hst hn1 hn5 hL hw hr hh4 (hs0.grow G) (fun f2 h2 s2 hs2 G2 hf2 => K f2 h2 s2 hs2 (G.trans G2) hf2) 12 0 _ f' hh4 (by omega) (by simp) (Grew.refl _) hf'
  cases hok : streamOK k s with
  | false =>
    rw [hok, Bool.false_and] at hcut
    rw [hcut, cond_false] at hcutF
    rw [hok] at A2
    rw [hcut]
    rw [hcutF] at A3
    simp only [cond_false] at A2
    obtain ⟨a2, k2, rfl, _⟩ := A2.at
    obtain ⟨a3, k3, rfl, _⟩ := A3.as_strs
    cases hov : overF k s with
    | false =>
      refine RunA 1000 40 ?_
      exact Fin_goto (lpN Tryd.f4 2) hh4 ([(1, .string st), (5, I k), (6, I n), (7, .slice a L.length kk), (9, I r)] ++ [(19, .string ByteArray.empty), (20, I (0 : Nat))]) (by kernel_rfl) rfl (by kernel_rfl) fin
    | true =>
      rw [hok, hov, Bool.and_true] at hdef
      have hsz : ¬s.size ≤ 1000 := of_decide_eq_false hdef.symm
      refine RunA 1000 1 ?_
      refine Fin_c ((s.size : Int) > 1000) (by kernel_rfl) (fun h5 => ?_) (fun h5 => by omega)
      refine RunA 1000 40 ?_
      exact Fin_goto (lpN Tryd.f4 2) hh4 ([(1, .string st), (5, I k), (6, I n), (7, .slice a L.length kk), (9, I r)] ++ [(19, .string ByteArray.empty), (20, I (0 : Nat))]) (by kernel_rfl) rfl (by kernel_rfl) fin
  | true =>
    rw [hok] at hdef
    have hd2 := Bool.and_eq_true_iff.1 hdef.symm
    have hsz : s.size ≤ 1000 := of_decide_eq_true hd2.1
    rw [hok] at A2
    simp only [cond_true] at A2
    obtain ⟨M, eM⟩ : ∃ M, M = readsF n L s := ⟨_, rfl⟩
    rw [← eM] at A2 hcut hcutF
    rw [hok, Bool.true_and] at hcut
    obtain ⟨ok, eok⟩ : ∃ ok, ok = cutOK n L k s := ⟨_, rfl⟩
    rw [← eok] at hcut hcutF ⊢
    obtain ⟨C, eC⟩ : ∃ C, C = cutF n L k s := ⟨_, rfl⟩
    rw [← eC] at hcutF A3
    obtain ⟨a2, k2, rfl, i2⟩ := A2.at
    obtain ⟨a3, k3, rfl, st3⟩ := A3.as_strs
    rw [hd2.2]
    refine RunA 1000 1 ?_
    refine Fin_c ((s.size : Int) > 1000) (by kernel_rfl) (fun h5 => by omega) (fun h5 => ?_)
    refine Run 1000 ?_
    refine Fin_call 27 [I n, .slice a L.length kk, .string s] (by kernel_rfl) (by kernel_rfl) (rreads_spec (X := AX2) (by kernel_rfl) (by kernel_rfl) (by kernel_rfl) hh4 a kk L hL (hs0.grow G) s hs n hn1 (by omega)) (fun v5 hh5 A5 => ?_)
    rw [← eM] at A5
    have G5 := A5.grew
    obtain ⟨a5, k5, rfl, i5⟩ := A5.at
    have cmp := rd_cmp st k n a kk L r hk1 hk4 hst hn1 hn5 hL hw hr s hs M eM ok hcut a2 a5 a3 k2 k5 k3 C hcutF (Q := Q) hh5 (hs0.grow (G.trans G5)) ((i2.grow G3).grow G5) i5 (st3.grow G5)
      (fun f2 h2 s2 hs2 G2 hf2 => K f2 h2 s2 hs2 ((G.trans G5).trans G2) hf2) M.length 0
    refine RunA 1000 2 ?_
    refine Fin_gB false (by kernel_rfl) (Eq.trans (b := .bool (!((M.length : Int) == (M.length : Int)))) (by kernel_rfl) (by simp)) ?_
    cases hb : ok with
    | false =>
      rw [hb] at hcut hcutF
      simp only [cond_false] at hcutF
      subst hcutF
      have hne : ((M.length : Int) == 1) = false := by
        rw [Bool.eq_false_iff]; intro hh; rw [beq_iff_eq] at hh
        have : (M.length == 1) = true := by rw [beq_iff_eq]; omega
        rw [← hcut] at this; simp at this
      refine Run 1000 ?_
      refine Fin_gB false (by kernel_rfl) (Eq.trans (b := .bool (false != ((M.length : Int) == 1))) (by kernel_rfl) (by rw [hne]; rfl)) ?_
      refine RunA 1000 10 ?_
      refine Fin_goto (lpN Tryd.f4 1) hh5 ([(1, .string st), (5, I k), (6, I n), (7, .slice a L.length kk), (9, I r)] ++ [(8, .string s), (10, .slice a2 M.length k2), (12, .slice a3 ([] : List ByteArray).length k3), (13, .bool false), (15, .slice a5 M.length k5), (16, I (0 : Nat))]) (by kernel_rfl) rfl (by kernel_rfl) (fun f' hf' => ?_)
      rw [hb] at cmp
      exact cmp f' (by omega) hf'
    | true =>
      rw [hb] at hcut
      have heq : ((M.length : Int) == 1) = true := by
        have := hcut.symm; rw [beq_iff_eq] at this; rw [this]; rfl
      refine Run 1000 ?_
      refine Fin_gB false (by kernel_rfl) (Eq.trans (b := .bool (true != ((M.length : Int) == 1))) (by kernel_rfl) (by rw [heq]; rfl)) ?_
      refine RunA 1000 10 ?_
      refine Fin_goto (lpN Tryd.f4 1) hh5 ([(1, .string st), (5, I k), (6, I n), (7, .slice a L.length kk), (9, I r)] ++ [(8, .string s), (10, .slice a2 M.length k2), (12, .slice a3 C.length k3), (13, .bool true), (15, .slice a5 M.length k5), (16, I (0 : Nat))]) (by kernel_rfl) rfl (by kernel_rfl) (fun f' hf' => ?_)
      rw [hb] at cmp
      exact cmp f' (by omega) hf'
end

set_option maxHeartbeats 1000000 in
/-- The law. -/
theorem rd_true (k0 n0 : Int) (st : ByteArray) (hst : st.size ≤ 9223372036854775807) (h : AHeap) (a : Option Addr) (kk : Nat) (S : List ByteArray) (hS : S.length ≤ 9223372036854775807) (hss : Strs h a S) (hsz : ∀ s ∈ S, s.size ≤ 9223372036854775807) :
    Ca Tryd.prog AX2 (.fn 4) [.agg #[I k0, I n0, .slice a S.length kk], .string st] h (fun v _ => v = .bool true) := by
  obtain ⟨k, k1, k4, ek⟩ := norm_in 4 (by omega) (by omega) k0
  obtain ⟨n, n1, n5, en⟩ := norm_in 5 (by omega) (by omega) n0
  obtain ⟨L, eL⟩ : ∃ L, L = tameGo k n 30 S [] := ⟨_, rfl⟩
  have hcode := tame_code (n := n) (most := 30) k1 k4 S
  obtain ⟨hok1, hok2, hok3⟩ := tame_ok (n := n) (most := 30) k1 k4 S [] (by simp) List.Pairwise.nil (by simp)
  rw [← eL] at hcode hok1 hok2 hok3
  have hin : inRange k n = true := inRange_iff.2 (by omega)
  have hw : ∀ w ∈ L, w.size = n := fun w h => (hok1 w h).1
  refine Ca_fn (fn := Tryd.f4) (c := Tryd.f4.body.getD .skip) (by kernel_rfl) (by kernel_rfl) (by kernel_rfl) (by kernel_rfl) ?_
  refine Run 1000 ?_
  refine Box (.agg #[I k0, I n0, .slice a S.length kk]) (by kernel_rfl) (by kernel_rfl) rfl ?_
  have hrow : (h ++ [AObj.row (Value.agg #[I k0, I n0, .slice a S.length kk]).cells.toList true])[h.length]? = some (.row [I k0, I n0, .slice a S.length kk] true) := by rw [List.getElem?_append_right (Nat.le_refl _)]; simp [Value.cells]
  have G0 : Grew h (h ++ [AObj.row (Value.agg #[I k0, I n0, .slice a S.length kk]).cells.toList true]) := ⟨_, rfl⟩
  refine Run 1000 ?_
  refine PureV (.pointer (some ⟨h.length, 0 + 0, none⟩)) (by kernel_rfl) (by kernel_rfl) (by kernel_rfl) ?_
  refine Run 1000 ?_
  refine Load 3 (.pointer (some ⟨h.length, 0 + 0, none⟩)) (I k0) (by kernel_rfl) (by kernel_rfl) (load_row ti3 rfl hrow rfl) ?_
  refine Run 1000 ?_
  refine PureV (.pointer (some ⟨h.length, 0 + 1, none⟩)) (by kernel_rfl) (by kernel_rfl) (by kernel_rfl) ?_
  refine Run 1000 ?_
  refine Load 3 (.pointer (some ⟨h.length, 0 + 1, none⟩)) (I n0) (by kernel_rfl) (by kernel_rfl) (load_row ti3 rfl hrow rfl) ?_
  refine Run 1000 ?_
  have c1 := fun h => kn_spec (X := AX2) (by kernel_rfl) k0 n0 h
  simp only [show norm 4 k0 = k from ek, show norm 5 n0 = n from en] at c1
  refine Fin_call 21 [I k0, I n0] (by kernel_rfl) (by kernel_rfl) (c1 _) (fun v1 hh1 hv1 => ?_)
  obtain ⟨rfl, rfl⟩ := hv1
  refine Run 1000 ?_
  refine PureV (.pointer (some ⟨h.length, 0 + 2, none⟩)) (by kernel_rfl) (by kernel_rfl) (by kernel_rfl) ?_
  refine Run 1000 ?_
  refine Load 22 (.pointer (some ⟨h.length, 0 + 2, none⟩)) (.slice a S.length kk) (by kernel_rfl) (by kernel_rfl) (load_row ti22 rfl hrow rfl) ?_
  refine Run 1000 ?_
  refine Fin_call 23 [.slice a S.length kk, I k, I n, I (30 : Nat)] (by kernel_rfl) (by kernel_rfl) (tame_spec (by kernel_rfl) (by kernel_rfl) (by kernel_rfl) (by kernel_rfl) (by kernel_rfl) _ a kk S hS (hss.grow G0) hsz k n 30 k1 k4 n1 n5 (by omega)) (fun v2 hh2 A2 => ?_)
  rw [← eL] at A2
  have G2 := A2.grew
  obtain ⟨a2, kk2, rfl, hst2⟩ := A2.as_strs
  have hmin : ∃ m : Nat, m ≤ st.size ∧ m ≤ 1001 ∧ (if (1001 : Int) < (st.size : Int) then (1001 : Int) else (st.size : Int)) = m := by
    by_cases h : (1001 : Int) < (st.size : Int)
    · exact ⟨1001, by omega, by omega, by rw [if_pos h]; rfl⟩
    · exact ⟨st.size, Nat.le_refl _, by omega, by rw [if_neg h]⟩
  obtain ⟨m, m1, m2, em⟩ := hmin
  refine Run 1000 ?_
  refine Slic 9 (.string st) (.string (st.extract 0 m)) none (some (I (if (1001 : Int) < (st.size : Int) then (1001 : Int) else (st.size : Int)))) none (by kernel_rfl) (by kernel_rfl) (by rw [em]; exact slice_to st m m1) ?_
  refine Run 1000 ?_
  refine Fin_goto (lpN Tryd.f4 0) hh2 (rdSl st k n a2 kk2 L 0 ++ [(8, .string (st.extract 0 m))]) (by kernel_rfl) rfl (by kernel_rfl) (fun f' hf' => ?_)
  refine rd_round st k n a2 kk2 L 0 hin hst (by omega) hcode hw (by omega) _ (by simp; omega) hh2 hst2 (fun f1 h1 s1 hs1 G1 hf1 => ?_) f' hf'
  refine rd_round st k n a2 kk2 L 1 hin hst (by omega) hcode hw (by omega) s1 hs1 h1 (hst2.grow G1) (fun f3 h3 s3 hs3 G3 hf3 => ?_) f1 hf1
  refine Fin_known _ hf3 ?_
  refine Fin_unrl ?_
  refine RunA 1000 5 ?_
  refine Fin_call 22 [] (by kernel_rfl) (by kernel_rfl) (awake_ca2 h3) (fun v11 hh11 hv11 => ?_)
  obtain ⟨rfl, rfl⟩ := hv11
  refine RunA 1000 10 ?_
  exact Fin_r (by kernel_rfl) ⟨Or.inr rfl, .bool true, by kernel_rfl, rfl⟩
end Go.Proofs.YtpbmpdocgplhpaaDoor
