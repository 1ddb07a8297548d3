/-
  'FlagDecodes', walked.
-/
import Derived.Test.YtpbmpdocgplhpaaDoorFreeW
import Derived.Test.YtpbmpdocgplhpaaDoorRdK
import Derived.Test.YtpbmpdocgplhpaaDoorKnS
import Derived.Test.YtpbmpdocgplhpaaDoorMH
set_option linter.unusedSimpArgs false
set_option linter.unusedVariables false
set_option maxRecDepth 100000
namespace Go.Proofs.YtpbmpdocgplhpaaDoor
open Go Go.AM

theorem rem_u64n (c : Int) (m : Nat) (hm : 0 < m) (hm2 : m < 1000000) : ∃ q : Nat, q < m ∧ abin Tryd.prog .rem 33 (.int .u64 (IntKind.wrap .u64 c)) (.int .u64 (IntKind.wrap .u64 (m : Int))) = some (.int .u64 (q : Int)) := by
  have e : IntKind.wrap .u64 (m : Int) = m := by simp [IntKind.wrap, IntKind.bits, IntKind.signed]; omega
  have h1 : 0 ≤ IntKind.wrap .u64 c := by simp [IntKind.wrap, IntKind.bits, IntKind.signed]; omega
  have h2 : Int.tmod (IntKind.wrap .u64 c) m = (IntKind.wrap .u64 c) % m := Int.tmod_eq_emod_of_nonneg h1
  have h3 := Int.emod_nonneg (IntKind.wrap .u64 c) (show (m : Int) ≠ 0 by omega)
  have h4 := Int.emod_lt_of_pos (IntKind.wrap .u64 c) (show (0 : Int) < m by omega)
  refine ⟨((IntKind.wrap .u64 c) % m).toNat, by omega, ?_⟩
  rw [e]
  have h5 : (((IntKind.wrap .u64 c) % m).toNat : Int) = Int.tmod (IntKind.wrap .u64 c) m := by rw [h2]; omega
  rw [h5]
  simp [abin, aint]; omega

section
variable (k n : Nat) (a aZ aw : Option Addr) (kk kz kw : Nat) (L ws : List ByteArray) (Z : List Int) (s : ByteArray)
abbrev dSl (k n : Nat) (a aZ : Option Addr) (kk kz : Nat) (L : List ByteArray) (Z : List Int) : List (Nat × Value) :=
  [(1, .slice aZ Z.length kz), (5, I k), (6, I n), (7, .slice a L.length kk)]
set_option maxHeartbeats 2000000 in
theorem dec_end (hin : inRange k n = true) (hL : L.length < 100000) (hc : codeF k n L = true) (hw : ∀ w ∈ L, w.size = n ∧ overF k w = true) (hfree : freeF L = true) (h : AHeap) (hst : Strs h a L)
    (hws : ∀ w ∈ ws, w ∈ L) (h1 : 1 ≤ ws.length) (h40 : ws.length ≤ 40) (hs : tl s = flat ws) (hsw : Strs h aw ws) (f : Nat → Value) (hf : Knows f (dSl k n a aZ kk kz L Z ++ [(8, .string s), (9, .slice aw ws.length kw)])) :
    Fin Tryd.prog AX2 none Tryd.f5.ntmps (brk (lpN Tryd.f5 0)) .normal ⟨f, h⟩ (TrueQ Tryd.f5) := by
  obtain ⟨k1, k4, n1, n5⟩ := inRange_iff.1 hin
  have hn1 : 1 ≤ n := by omega
  have hsz : ∀ w ∈ ws, w.size = n := fun w h => (hw w (hws w h)).1
  have hss : s.size = ws.length * n := by rw [← tl_length, hs, flatN hsz]
  have hss2 : s.size ≤ 200 := by rw [hss]; exact Nat.le_trans (Nat.mul_le_mul h40 (show n ≤ 5 by omega)) (by omega)
  have hreads := reads_flat hw hn1 hfree hws hs h1
  obtain ⟨hcok, hcut⟩ := cut_flat hw hn1 hfree hws hs h1 (by omega)
  have hov := flat_over hw hws hs
  have hstream : streamOK k s = true := by unfold streamOK; rw [hov, decide_eq_true (by omega)]; rfl
  obtain ⟨s2, e2⟩ : ∃ s2, s2 = s.extract 1 s.size := ⟨_, rfl⟩
  have hs2 : s2.size ≤ 200 := by rw [e2]; simp; omega
  have hstream2 : streamOK k s2 = true := by unfold streamOK; rw [over_drop hov e2, decide_eq_true (by omega)]; rfl
  obtain ⟨w0, wr, ewr⟩ : ∃ w0 wr, ws = w0 :: wr := by
    cases ws with
    | nil => simp at h1
    | cons x y => exact ⟨x, y, rfl⟩
  obtain ⟨is, eis⟩ : ∃ is, is = cutOK n L k s2 := ⟨_, rfl⟩
  have htail : 2 ≤ ws.length → is = true → cutF n L k s2 = ws.drop 1 := by
    intro h2 hi
    rw [ewr] at hws hs h2 ⊢
    simp only [List.length_cons] at h2
    exact cut_tail hw hn1 (hws w0 (List.mem_cons_self ..)) (fun w h => hws w (List.mem_cons_of_mem _ h)) hs (by omega) e2 (by rw [← eis]; exact hi)
  have c24 := readsOf_spec (X := AX2) (by kernel_rfl) (by kernel_rfl) readX2 overX2 k n hin h a kk L (by omega) hst hc s (by omega)
  have c25 := fun h st => cutOf_spec (X := AX2) (by kernel_rfl) (by kernel_rfl) readX2 overX2 k n hin h a kk L (by omega) st hc s (by omega)
  have c25' := fun h st => cutOf_spec (X := AX2) (by kernel_rfl) (by kernel_rfl) readX2 overX2 k n hin h a kk L (by omega) st hc s2 (by omega)
  rw [hstream] at c24
  simp only [hstream, hcok, hcut] at c25
  simp only [hstream2, ← eis] at c25'
  simp only [cond_true] at c24 c25 c25'
  rw [hreads] at c24
  obtain ⟨ad, kd, hslice, hsd⟩ := slice_on hsw kw 1 h1
  obtain ⟨b1, eb1⟩ : ∃ b1, b1 = ((n : Int) == 1) := ⟨_, rfl⟩
  refine Fin_known _ hf ?_
  refine Run 1000 ?_
  refine Fin_call 24 [I k, I n, .slice a L.length kk, .string s] (by kernel_rfl) (by kernel_rfl) c24 (fun v2 hh2 hv2 => ?_)
  obtain ⟨v2, rfl, A2⟩ := hv2
  have G2 := A2.grew
  obtain ⟨aM, kM, rfl, iM⟩ := A2.at
  obtain ⟨bM, rfl, hbM⟩ := iM 0 (by simp)
  refine Run 1000 ?_
  refine Fin_call 25 [I k, I n, .slice a L.length kk, .string s] (by kernel_rfl) (by kernel_rfl) (c25 hh2 (hst.grow G2)) (fun v3 hh3 hv3 => ?_)
  obtain ⟨v3, rfl, A3⟩ := hv3
  have G3 := A3.grew
  obtain ⟨a3, k3, rfl, s3⟩ := A3.as_strs
  refine RunA 1000 5 ?_
  refine IdxA 40 bM 0 1 1 kM .i64 0 (by kernel_rfl) (by kernel_rfl) ti40 rfl ti3 rfl (by omega) (by omega) ?_
  refine Run 1000 ?_
  refine Load 3 (.pointer (some ⟨bM, 0 + (0 : Int).toNat * 1, none⟩)) (I 0) (by kernel_rfl) (by kernel_rfl) (load_row ti3 rfl (G3.at hbM) rfl) ?_
  refine RunA 1000 5 ?_
  refine Fin_call 18 [.slice a3 ws.length k3, .slice aw ws.length kw] (by kernel_rfl) (by kernel_rfl) (by
    have c := texts_spec (X := AX2) (by kernel_rfl) hh3 a3 aw k3 kw ws ws (by omega) s3 (hsw.grow (G2.trans G3))
    rw [textsF_same] at c; exact c) (fun v4 hh4 hv4 => ?_)
  obtain ⟨rfl, rfl⟩ := hv4
  have G4 := G2.trans G3
  refine RunA 1000 1 ?_
  refine Fin_g ((ws.length : Int) < 2) (by kernel_rfl) (by kernel_rfl) (fun h5 => ?_) (fun h5 => ?_)
  · refine RunA 1000 2 ?_
    refine Fin_call 22 [] (by kernel_rfl) (by kernel_rfl) (awake_ca2 hh4) (fun v6 hh6 hv6 => ?_)
    obtain ⟨rfl, rfl⟩ := hv6
    refine RunA 1000 10 ?_
    exact Fin_r (by kernel_rfl) ⟨Or.inr rfl, .bool true, by kernel_rfl, rfl⟩
  · refine Run 1000 ?_
    refine Fin_cB b1 (Eq.trans (b := .bool ((n : Int) == 1)) (by kernel_rfl) (by rw [eb1])) ?_
    cases b1 with
    | true =>
      refine RunA 1000 2 ?_
      refine Fin_call 22 [] (by kernel_rfl) (by kernel_rfl) (awake_ca2 hh4) (fun v6 hh6 hv6 => ?_)
      obtain ⟨rfl, rfl⟩ := hv6
      refine RunA 1000 10 ?_
      exact Fin_r (by kernel_rfl) ⟨Or.inr rfl, .bool true, by kernel_rfl, rfl⟩
    | false =>
      refine Run 1000 ?_
      refine Slic 9 (.string s) (.string s2) (some (I 1)) none none (by kernel_rfl) (by kernel_rfl) (by rw [e2]; exact slice_from s 1 (by rw [hss]; exact Nat.le_trans h1 (Nat.le_mul_of_pos_right _ hn1))) ?_
      refine Run 1000 ?_
      refine Fin_call 25 [I k, I n, .slice a L.length kk, .string s2] (by kernel_rfl) (by kernel_rfl) (c25' hh4 (hst.grow G4)) (fun v7 hh7 hv7 => ?_)
      obtain ⟨v7, rfl, A7⟩ := hv7
      have G7 := A7.grew
      obtain ⟨a7, k7, rfl, s7⟩ := A7.as_strs
      cases is with
      | false =>
        refine RunA 1000 10 ?_
        refine Fin_call 22 [] (by kernel_rfl) (by kernel_rfl) (awake_ca2 hh7) (fun v6 hh6 hv6 => ?_)
        obtain ⟨rfl, rfl⟩ := hv6
        refine RunA 1000 10 ?_
        exact Fin_r (by kernel_rfl) ⟨Or.inr rfl, .bool true, by kernel_rfl, rfl⟩
      | true =>
        have ht := htail (by omega) rfl
        refine RunA 1000 10 ?_
        refine Slic 22 (.slice aw ws.length kw) (.slice ad (ws.drop 1).length kd) (some (I 1)) none none (by kernel_rfl) (by kernel_rfl) hslice ?_
        refine Run 1000 ?_
        refine Fin_call 18 [.slice a7 (cutF n L k s2).length k7, .slice ad (ws.drop 1).length kd] (by kernel_rfl) (by kernel_rfl) (by
          have c := texts_spec (X := AX2) (by kernel_rfl) hh7 a7 ad k7 kd (cutF n L k s2) (ws.drop 1) (by rw [ht, List.length_drop]; omega) s7 (hsd.grow (G4.trans G7))
          rw [ht, textsF_same] at c; rw [ht]; exact c) (fun v8 hh8 hv8 => ?_)
        obtain ⟨rfl, rfl⟩ := hv8
        refine RunA 1000 10 ?_
        refine Fin_call 22 [] (by kernel_rfl) (by kernel_rfl) (awake_ca2 hh8) (fun v6 hh6 hv6 => ?_)
        obtain ⟨rfl, rfl⟩ := hv6
        refine RunA 1000 10 ?_
        exact Fin_r (by kernel_rfl) ⟨Or.inr rfl, .bool true, by kernel_rfl, rfl⟩

theorem dec_loop (hin : inRange k n = true) (hL : L.length < 100000) (hL1 : 1 ≤ L.length) (hc : codeF k n L = true) (hw : ∀ w ∈ L, w.size = n ∧ overF k w = true) (hfree : freeF L = true) (h0 : AHeap) (hst0 : Strs h0 a L)
    (hZ : Z.length ≤ 9223372036854775807) (hZ1 : 1 ≤ Z.length) (hz0 : IntsIn h0 aZ Z) :
    ∀ (t i : Nat) (f : Nat → Value) (h : AHeap) (v : Value) (ws : List ByteArray) (s : ByteArray), i + t = min 40 Z.length → ws.length = i → Acc h0 h v ws → (∀ w ∈ ws, w ∈ L) → tl s = flat ws → Knows f (dSl k n a aZ kk kz L Z ++ [(8, .string s), (9, v), (10, I i)]) →
    Fin Tryd.prog AX2 none Tryd.f5.ntmps (lpN Tryd.f5 0) .normal ⟨f, h⟩ (TrueQ Tryd.f5) := by
  obtain ⟨k1, k4, n1, n5⟩ := inRange_iff.1 hin
  intro t
  induction t with
  | zero =>
    intro i f h v ws s hi hl A hws hs hf
    obtain ⟨aw, kw, rfl, hsw⟩ := A.as_strs
    refine Fin_known _ hf ?_
    refine Fin_unrl ?_
    refine Run 1000 ?_
    refine Fin_g ((i : Int) < Z.length) (by kernel_rfl) (by kernel_rfl) (fun h1 => ?_) (fun h1 => ?_)
    · refine Run 1000 ?_
      refine Fin_c ((i : Int) < 40) (by kernel_rfl) (fun h2 => by omega) (fun h2 => ?_)
      refine Esc (brk (lpN Tryd.f5 0)) h (dSl k n a aZ kk kz L Z ++ [(8, .string s), (9, .slice aw ws.length kw)]) (by kernel_rfl) rfl (by kernel_rfl) (fun f' hf' => ?_)
      exact dec_end k n a aZ aw kk kz kw L ws Z s hin hL hc hw hfree h (hst0.grow A.grew) hws (by omega) (by omega) hs hsw f' hf'
    · refine Run 1000 ?_
      refine Fin_cB false (by kernel_rfl) ?_
      refine Esc (brk (lpN Tryd.f5 0)) h (dSl k n a aZ kk kz L Z ++ [(8, .string s), (9, .slice aw ws.length kw)]) (by kernel_rfl) rfl (by kernel_rfl) (fun f' hf' => ?_)
      exact dec_end k n a aZ aw kk kz kw L ws Z s hin hL hc hw hfree h (hst0.grow A.grew) hws (by omega) (by omega) hs hsw f' hf'
  | succ t ih =>
    intro i f h v ws s hi hl A hws hs hf
    have hsz : ∀ w ∈ ws, w.size = n := fun w h => (hw w (hws w h)).1
    have hss : s.size = ws.length * n := by rw [← tl_length, hs, flatN hsz]
    have hss2 : s.size ≤ 200 := by rw [hss]; exact Nat.le_trans (Nat.mul_le_mul (show ws.length ≤ 40 by omega) (show n ≤ 5 by omega)) (by omega)
    have hG := A.grew
    have hiZ : i < Z.length := by omega
    rcases hz0 with hz0 | ⟨bz, rfl, l, hbz, hlz⟩
    · rw [hz0] at hZ1; simp at hZ1
    obtain ⟨z, ez⟩ : ∃ z, z = Z[i] := ⟨_, rfl⟩
    have hlz := hlz i hiZ
    rw [← ez] at hlz
    obtain ⟨q, hq, hrem⟩ := rem_u64n z L.length (by omega) (by omega)
    obtain ⟨b, o, rfl, hld⟩ := (hst0.grow hG).at hq
    obtain ⟨w, ew⟩ : ∃ w, w = L[q] := ⟨_, rfl⟩
    have hwL : w ∈ L := by rw [ew]; exact List.getElem_mem _
    have hwn := (hw w hwL).1
    rw [← ew] at hld
    have hwq : IntKind.wrap .i64 (q : Int) = (q : Int) := wrap_small (by omega) (by omega)
    obtain ⟨v2, hn2, ea, A2, _, _⟩ := A.app w (by omega)
    have hab := hG.at hbz
    refine Fin_known _ hf ?_
    refine Fin_unrl ?_
    refine Run 1000 ?_
    refine Fin_g ((i : Int) < Z.length) (by kernel_rfl) (by kernel_rfl) (fun h1 => ?_) (fun h1 => by omega)
    refine Run 1000 ?_
    refine Fin_c ((i : Int) < 40) (by kernel_rfl) (fun h2 => ?_) (fun h2 => by omega)
    refine Run 1000 ?_
    refine IdxA 40 bz 0 1 Z.length kz .i64 i (by kernel_rfl) (by kernel_rfl) ti40 rfl ti3 rfl (by omega) (by omega) ?_
    refine Run 1000 ?_
    refine Load 3 (.pointer (some ⟨bz, 0 + (i : Int).toNat * 1, none⟩)) (I z) (by kernel_rfl) (by kernel_rfl) (load_row ti3 rfl hab (by simpa using hlz)) ?_
    refine Run 1000 ?_
    refine Bin .rem 33 (.int .u64 (IntKind.wrap .u64 z)) (.int .u64 (IntKind.wrap .u64 (L.length : Int))) (.int .u64 (q : Int)) (by kernel_rfl) (by kernel_rfl) hrem ?_
    refine Run 1000 ?_
    refine IdxA 22 b o 1 L.length kk .i64 (IntKind.wrap .i64 (q : Int)) (by kernel_rfl) (by kernel_rfl) ti22 rfl ti9 rfl (by omega) (by omega) ?_
    refine Run 1000 ?_
    refine Load 9 (.pointer (some ⟨b, o + (IntKind.wrap .i64 (q : Int)).toNat * 1, none⟩)) (.string w) (by kernel_rfl) (by kernel_rfl) (by rw [hwq]; simpa using hld) ?_
    refine Run 1000 ?_
    refine Bld 22 1 [(0, .string w)] (.slice (some ⟨h.length, 0, some 1⟩) 1 1) (h ++ [AObj.row [Value.string w] true]) (by kernel_rfl) (by kernel_rfl) (by simp [abuildSlice, ti22, ti9, zerosOf, afill, splice, isCell, Value.cells, isData]) ?_
    refine Run 1000 ?_
    refine App 22 22 v (.slice (some ⟨h.length, 0, some 1⟩) 1 1) v2 hn2 (by kernel_rfl) (by kernel_rfl) Tryd.underlying22 (by simp) ea ?_
    refine Run 1000 ?_
    refine Bin .add 9 (.string s) (.string w) (.string (s ++ w)) (by kernel_rfl) (by kernel_rfl) (add_str _ _ (by omega)) ?_
    refine Run 1000 ?_
    refine Fin_goto (lpN Tryd.f5 0) hn2 ([(1, .slice (some ⟨bz, 0, some 1⟩) Z.length kz), (5, I k), (6, I n), (7, .slice (some ⟨b, o, some 1⟩) L.length kk)] ++ [(8, .string (s ++ w)), (9, v2), (10, I (IntKind.wrap .i64 ((i : Int) + 1)))]) (by kernel_rfl) rfl (by kernel_rfl) (fun f' hf' => ?_)
    rw [wrap_next (n := 41) (by omega) (by omega)] at hf'
    refine ih (i + 1) f' hn2 v2 (ws ++ [w]) (s ++ w) (by omega) (by simp; omega) A2 (fun x hx => ?_) ?_ hf'
    · rcases List.mem_append.1 hx with hx | hx
      · exact hws x hx
      · simp only [List.mem_singleton] at hx; rw [hx]; exact hwL
    · rw [flat_snoc, ← hs]; unfold tl; rw [ByteArray.data_append, Array.toList_append]
end

set_option maxHeartbeats 1000000 in
/-- The law. -/
theorem dec_true (k0 n0 : Int) (h : AHeap) (a : Option Addr) (kk : Nat) (S : List ByteArray) (hS : S.length ≤ 9223372036854775807) (hss : Strs h a S) (hsz : ∀ s ∈ S, s.size ≤ 9223372036854775807)
    (aZ : Option Addr) (kz : Nat) (Z : List Int) (hZ : Z.length ≤ 9223372036854775807) (hz : IntsIn h aZ Z) :
    Ca Tryd.prog AX2 (.fn 5) [.agg #[I k0, I n0, .slice a S.length kk], .slice aZ Z.length kz] h (fun v _ => v = .bool true) := by
  obtain ⟨k, k1, k4, ek⟩ := norm_in 4 (by omega) (by omega) k0
  obtain ⟨n, n1, n5, en⟩ := norm_in 5 (by omega) (by omega) n0
  obtain ⟨T, eT⟩ : ∃ T, T = tameGo k n 30 S [] := ⟨_, rfl⟩
  obtain ⟨hok1, hok2, hok3⟩ := tame_ok (n := n) (most := 30) k1 k4 S [] (by simp) List.Pairwise.nil (by simp)
  rw [← eT] at hok1 hok2 hok3
  have hin : inRange k n = true := inRange_iff.2 (by omega)
  obtain ⟨L, eL⟩ : ∃ L, L = freeGo T [] := ⟨_, rfl⟩
  obtain ⟨f1, f2, f3, f4⟩ := free_ok T [] hok1 (rising_nd hok2) (fun w _ => by simp) (by simp) List.Pairwise.nil rfl
  rw [← eL] at f1 f2 f3 f4
  simp only [List.length_nil] at f4
  have hcode : codeF k n L = true := code_of f1 f2 (fun q hq => by simp at hq)
  obtain ⟨e1, he1⟩ : ∃ e1, e1 = ((L.length : Int) == 0) := ⟨_, rfl⟩
  obtain ⟨e2, he2⟩ : ∃ e2, e2 = ((Z.length : Int) == 0) := ⟨_, rfl⟩
  refine Ca_fn (fn := Tryd.f5) (c := Tryd.f5.body.getD .skip) (by kernel_rfl) (by kernel_rfl) (by kernel_rfl) (by kernel_rfl) ?_
  refine Run 1000 ?_
  refine Box (.agg #[I k0, I n0, .slice a S.length kk]) (by kernel_rfl) (by kernel_rfl) rfl ?_
  have hrow : (h ++ [AObj.row (Value.agg #[I k0, I n0, .slice a S.length kk]).cells.toList true])[h.length]? = some (.row [I k0, I n0, .slice a S.length kk] true) := by rw [List.getElem?_append_right (Nat.le_refl _)]; simp [Value.cells]
  have G0 : Grew h (h ++ [AObj.row (Value.agg #[I k0, I n0, .slice a S.length kk]).cells.toList true]) := ⟨_, rfl⟩
  refine Run 1000 ?_
  refine PureV (.pointer (some ⟨h.length, 0 + 0, none⟩)) (by kernel_rfl) (by kernel_rfl) (by kernel_rfl) ?_
  refine Run 1000 ?_
  refine Load 3 (.pointer (some ⟨h.length, 0 + 0, none⟩)) (I k0) (by kernel_rfl) (by kernel_rfl) (load_row ti3 rfl hrow rfl) ?_
  refine Run 1000 ?_
  refine PureV (.pointer (some ⟨h.length, 0 + 1, none⟩)) (by kernel_rfl) (by kernel_rfl) (by kernel_rfl) ?_
  refine Run 1000 ?_
  refine Load 3 (.pointer (some ⟨h.length, 0 + 1, none⟩)) (I n0) (by kernel_rfl) (by kernel_rfl) (load_row ti3 rfl hrow rfl) ?_
  refine Run 1000 ?_
  have c1 := fun h => kn_spec (X := AX2) (by kernel_rfl) k0 n0 h
  simp only [show norm 4 k0 = k from ek, show norm 5 n0 = n from en] at c1
  refine Fin_call 21 [I k0, I n0] (by kernel_rfl) (by kernel_rfl) (c1 _) (fun v1 hh1 hv1 => ?_)
  obtain ⟨rfl, rfl⟩ := hv1
  refine Run 1000 ?_
  refine PureV (.pointer (some ⟨h.length, 0 + 2, none⟩)) (by kernel_rfl) (by kernel_rfl) (by kernel_rfl) ?_
  refine Run 1000 ?_
  refine Load 22 (.pointer (some ⟨h.length, 0 + 2, none⟩)) (.slice a S.length kk) (by kernel_rfl) (by kernel_rfl) (load_row ti22 rfl hrow rfl) ?_
  refine Run 1000 ?_
  refine Fin_call 23 [.slice a S.length kk, I k, I n, I (30 : Nat)] (by kernel_rfl) (by kernel_rfl) (tame_spec (by kernel_rfl) (by kernel_rfl) (by kernel_rfl) (by kernel_rfl) (by kernel_rfl) _ a kk S hS (hss.grow G0) hsz k n 30 k1 k4 n1 n5 (by omega)) (fun v2 hh2 A2 => ?_)
  rw [← eT] at A2
  have G2 := A2.grew
  obtain ⟨a2, kk2, rfl, hst2⟩ := A2.as_strs
  refine Run 1000 ?_
  refine Fin_call 29 [.slice a2 T.length kk2] (by kernel_rfl) (by kernel_rfl) (freeW_spec (X := AX2) (by kernel_rfl) (by kernel_rfl) (by kernel_rfl) hh2 a2 kk2 T n (by omega) hst2 (fun w h => (hok1 w h).1) n1 (by omega)) (fun v3 hh3 hv3 => ?_)
  rw [← eL] at hv3
  obtain ⟨⟨a3, kk3, rfl, hst3⟩, G3⟩ := hv3
  refine Run 1000 ?_
  refine Fin_gB e1 (by kernel_rfl) (Eq.trans (b := .bool ((L.length : Int) == 0)) (by kernel_rfl) (by rw [he1])) ?_
  cases e1 with
  | true =>
    refine RunA 1000 2 ?_
    refine Fin_call 22 [] (by kernel_rfl) (by kernel_rfl) (awake_ca2 hh3) (fun v6 hh6 hv6 => ?_)
    obtain ⟨rfl, rfl⟩ := hv6
    refine RunA 1000 10 ?_
    exact Fin_r (by kernel_rfl) ⟨Or.inr rfl, .bool true, by kernel_rfl, rfl⟩
  | false =>
    refine Run 1000 ?_
    refine Fin_cB e2 (Eq.trans (b := .bool ((Z.length : Int) == 0)) (by kernel_rfl) (by rw [he2])) ?_
    cases e2 with
    | true =>
      refine RunA 1000 2 ?_
      refine Fin_call 22 [] (by kernel_rfl) (by kernel_rfl) (awake_ca2 hh3) (fun v6 hh6 hv6 => ?_)
      obtain ⟨rfl, rfl⟩ := hv6
      refine RunA 1000 10 ?_
      exact Fin_r (by kernel_rfl) ⟨Or.inr rfl, .bool true, by kernel_rfl, rfl⟩
    | false =>
      have hL1 : 1 ≤ L.length := by
        have := he1.symm; rw [Bool.eq_false_iff, ne_eq, beq_iff_eq] at this; omega
      have hZ1 : 1 ≤ Z.length := by
        have := he2.symm; rw [Bool.eq_false_iff, ne_eq, beq_iff_eq] at this; omega
      refine Run 1000 ?_
      refine Fin_goto (lpN Tryd.f5 0) hh3 (dSl k n a3 aZ kk3 kz L Z ++ [(8, .string ByteArray.empty), (9, .slice none 0 0), (10, I (0 : Nat))]) (by kernel_rfl) rfl (by kernel_rfl) (fun f' hf' => ?_)
      exact dec_loop k n a3 aZ kk3 kz L Z hin (by omega) hL1 hcode f1 f3 hh3 hst3 hZ hZ1 (hz.grow (G0.trans (G2.trans G3))) (min 40 Z.length) 0 f' hh3 _ [] _ (by omega) rfl (Acc.nil hh3) (by simp) rfl hf'
end Go.Proofs.YtpbmpdocgplhpaaDoor
