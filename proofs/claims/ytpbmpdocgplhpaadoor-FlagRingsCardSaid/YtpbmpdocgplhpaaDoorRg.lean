/-
  'FlagRings', walked.
-/
import Derived.Test.YtpbmpdocgplhpaaDoorRgPl
import Derived.Test.YtpbmpdocgplhpaaDoorRgPl2
import Derived.Test.YtpbmpdocgplhpaaDoorLawKit
import Derived.Test.YtpbmpdocgplhpaaDoorMV
set_option linter.unusedSimpArgs false
set_option linter.unusedVariables false
set_option maxRecDepth 100000
namespace Go.Proofs.YtpbmpdocgplhpaaDoor
open Go Go.AM

theorem kn_spec {X : Ext} (hX : X 21 = none) (k n : Int) (h : AHeap) : Ca Tryd.prog X (.fn 21) [I k, I n] h (fun v h' => v = .tuple #[I (norm 4 k), I (norm 5 n)] ∧ h' = h) := by
  refine Ca_fn (fn := Tryd.f21) (c := Tryd.f21.body.getD .skip) hX (by kernel_rfl) (by kernel_rfl) (by kernel_rfl) ?_
  refine Run 1000 ?_
  exact Fin_r (by kernel_rfl) ⟨Or.inr rfl, .tuple #[I (norm 4 k), I (norm 5 n)], by kernel_rfl, rfl, rfl⟩

theorem cr_same (k n : Int) : ((rCount k (n.toNat + 1) n).2 = true ∧ (countRings k n).2 = 0 ∧ (countRings k n).1 = (rCount k (n.toNat + 1) n).1) ∨ ((rCount k (n.toNat + 1) n).2 = false ∧ (countRings k n).2 = 1 ∧ (countRings k n).1 = 0) := by
  by_cases hin : k < 1 ∨ 9 < k ∨ n < 1 ∨ 60 < n
  · right
    simp only [rCount, countRings, if_pos hin, and_self]
  · have h := cr_all
    rw [List.all_eq_true] at h
    have h := h (k.toNat - 1) (by simp; omega)
    rw [List.all_eq_true] at h
    have h := h (n.toNat - 1) (by simp; omega)
    rw [show k.toNat - 1 + 1 = k.toNat by omega, show n.toNat - 1 + 1 = n.toNat by omega] at h
    unfold crOK at h
    rw [show ((k.toNat : Nat) : Int) = k by omega, show ((n.toNat : Nat) : Int) = n by omega] at h
    simp only [Bool.or_eq_true, Bool.and_eq_true, beq_iff_eq, Bool.not_eq_true'] at h
    rcases h with ⟨⟨a, b⟩, c⟩ | ⟨⟨a, b⟩, c⟩
    · exact Or.inl ⟨a, b, c⟩
    · exact Or.inr ⟨a, b, c⟩

theorem refX_AX : RefX AX := ⟨by kernel_rfl, by kernel_rfl, by kernel_rfl, by kernel_rfl, by kernel_rfl⟩

set_option maxHeartbeats 4000000 in
/-- One round of the law. -/
theorem rg_next (k n : Int) (r : Nat) (hr : r = 0 ∨ r = 1 ∨ r = 2) {Q : AExit → FS → Prop} (h : AHeap)
    (K : ∀ f' h' k' n', Knows f' [(0, I k'), (1, I n'), (5, I (r + 1 : Nat))] → Fin Tryd.prog AX none Tryd.f3.ntmps (lpN Tryd.f3 0) .normal ⟨f', h'⟩ Q) :
    ∀ f, Knows f [(0, I k), (1, I n), (5, I r)] → Fin Tryd.prog AX none Tryd.f3.ntmps (lpN Tryd.f3 0) .normal ⟨f, h⟩ Q := by
  intro f hf
  obtain ⟨c1, c2, w, ok, e1, e2, e3, e4⟩ : ∃ c1 c2 w ok, c1 = (countRings k n).1 ∧ c2 = (countRings k n).2 ∧ w = (rCount k (n.toNat + 1) n).1 ∧ ok = (rCount k (n.toNat + 1) n).2 := ⟨_, _, _, _, rfl, rfl, rfl, rfl⟩
  have hsame := cr_same k n
  rw [← e1, ← e2, ← e3, ← e4] at hsame
  have crs : ∀ h, Ca Tryd.prog AX (.fn 16) [I k, I n] h (fun v h' => v = .tuple #[I c1, I c2] ∧ Grew h h') := by
    intro h; rw [e1, e2]; exact cr_spec (by kernel_rfl) k n h
  have rcs : ∀ h, Ca Tryd.prog AX (.fn 20) [I k, I n] h (fun v h' => v = .tuple #[I w, .bool ok] ∧ Grew h h') := by
    intro h; rw [e3, e4]; exact rcr_spec (by kernel_rfl) k (n.toNat + 1) n h (by omega)
  obtain ⟨inr, einr⟩ : ∃ b, b = inRange k n := ⟨_, rfl⟩
  have rgs : ∀ h, Ca Tryd.prog AX (.fn 17) [I k, I n] h (fun v h' => v = .bool inr ∧ h' = h) := by
    intro h; rw [einr]; exact range_spec (by kernel_rfl) k n h
  have Rs := Rings_spec (X := AX) (by kernel_rfl) (by kernel_rfl) ringX_AX k n h
  rw [← einr] at Rs
  clear e1 e2 e3 e4
  refine Fin_known _ hf ?_
  refine Fin_unrl ?_
  refine Run 1000 ?_
  rcases hr with rfl | rfl | rfl
  · refine RunA 1000 40 ?_
    refine Fin_call 15 [I k, I n] (by kernel_rfl) (by kernel_rfl) Rs (fun v2 hh2 hv2 => ?_)
    obtain ⟨v1, rfl, A⟩ := hv2
    refine Run 1000 ?_
    refine Fin_call 16 [I k, I n] (by kernel_rfl) (by kernel_rfl) (crs hh2) (fun v3 hh3 hv3 => ?_)
    obtain ⟨rfl, G3⟩ := hv3
    refine Run 1000 ?_
    refine Fin_call 17 [I k, I n] (by kernel_rfl) (by kernel_rfl) (rgs hh3) (fun v4 hh4 hv4 => ?_)
    obtain ⟨rfl, rfl⟩ := hv4
    obtain ⟨a, kk, rfl, hs⟩ := A.as_strs
    cases inr with
    | false =>
      refine RunA 1000 40 ?_
      refine Fin_call 17 [I k, I n] (by kernel_rfl) (by kernel_rfl) (rgs hh4) (fun v5 hh5 hv5 => ?_)
      obtain ⟨rfl, rfl⟩ := hv5
      refine RunA 1000 40 ?_
      refine Fin_call 20 [I k, I n] (by kernel_rfl) (by kernel_rfl) (rcs hh5) (fun v6 hh6 hv6 => ?_)
      obtain ⟨rfl, G6⟩ := hv6
      rcases hsame with ⟨rfl, rfl, rfl⟩ | ⟨rfl, rfl, rfl⟩
      · refine RunA 1000 2 ?_
        refine Fin_gB false (by kernel_rfl) (Eq.trans (b := .bool (!(c1 == c1))) (by kernel_rfl) (by simp)) ?_
        refine RunA 1000 40 ?_
        refine Fin_goto (lpN Tryd.f3 0) hh6 [(0, I (norm 9 k)), (1, I (norm 60 n)), (5, I (1 : Nat))] (by kernel_rfl) (by kernel_rfl) (by kernel_rfl) (fun f' hf' => K f' hh6 _ _ hf')
      · refine RunA 1000 40 ?_
        refine Fin_goto (lpN Tryd.f3 0) hh6 [(0, I (norm 9 k)), (1, I (norm 60 n)), (5, I (1 : Nat))] (by kernel_rfl) (by kernel_rfl) (by kernel_rfl) (fun f' hf' => K f' hh6 _ _ hf')
    | true =>
      have hin : inRange k n = true := einr.symm
      obtain ⟨i1, i2, i3, i4⟩ := inRange_iff.1 hin
      simp only [if_true] at hs ⊢
      refine RunA 1000 40 ?_
      refine Fin_call 17 [I k, I n] (by kernel_rfl) (by kernel_rfl) (rgs hh4) (fun v5 hh5 hv5 => ?_)
      obtain ⟨rfl, rfl⟩ := hv5
      refine RunA 1000 40 ?_
      have rr := rrings_spec (X := AX) refX_AX k.toNat n.toNat (by omega) (by omega) (by omega) hh5
      rw [show ((k.toNat : Nat) : Int) = k by omega, show ((n.toNat : Nat) : Int) = n by omega] at rr
      refine Fin_call 19 [I k, I n] (by kernel_rfl) (by kernel_rfl) rr (fun v7 hh7 A7 => ?_)
      obtain ⟨a7, kk7, rfl, hs7⟩ := A7.as_strs
      refine RunA 1000 40 ?_
      have hlr : (ringsF k.toNat n.toNat).length < 9223372036854775807 := by
        have h1 : (ringsF k.toNat n.toNat).length ≤ (wordsL k.toNat n.toNat).length := by simp only [ringsF, List.length_map]; exact List.length_filter_le _ _
        have h2 := words_len ⟨k.toNat, by omega⟩ ⟨n.toNat, by omega⟩
        simp only at h2
        omega
      refine Fin_call 18 [.slice a (ringsF k.toNat n.toNat).length kk, .slice a7 ((allM k.toNat n.toNat).filter rRingOK).length kk7] (by kernel_rfl) (by kernel_rfl) (texts_spec (by kernel_rfl) hh7 a a7 kk kk7 _ _ hlr ((hs.grow G3).grow A7.grew) hs7) (fun v8 hh8 hv8 => ?_)
      obtain ⟨rfl, rfl⟩ := hv8
      rw [rg_ok hin]
      refine RunA 1000 40 ?_
      refine Fin_call 20 [I k, I n] (by kernel_rfl) (by kernel_rfl) (rcs hh8) (fun v6 hh6 hv6 => ?_)
      obtain ⟨rfl, G6⟩ := hv6
      rcases hsame with ⟨rfl, rfl, rfl⟩ | ⟨rfl, rfl, rfl⟩
      · refine RunA 1000 2 ?_
        refine Fin_gB false (by kernel_rfl) (Eq.trans (b := .bool (!(c1 == c1))) (by kernel_rfl) (by simp)) ?_
        refine RunA 1000 40 ?_
        refine Fin_goto (lpN Tryd.f3 0) hh6 [(0, I (norm 9 k)), (1, I (norm 60 n)), (5, I (1 : Nat))] (by kernel_rfl) (by kernel_rfl) (by kernel_rfl) (fun f' hf' => K f' hh6 _ _ hf')
      · refine RunA 1000 40 ?_
        refine Fin_goto (lpN Tryd.f3 0) hh6 [(0, I (norm 9 k)), (1, I (norm 60 n)), (5, I (1 : Nat))] (by kernel_rfl) (by kernel_rfl) (by kernel_rfl) (fun f' hf' => K f' hh6 _ _ hf')
  · refine RunA 1000 40 ?_
    refine Fin_call 15 [I k, I n] (by kernel_rfl) (by kernel_rfl) Rs (fun v2 hh2 hv2 => ?_)
    obtain ⟨v1, rfl, A⟩ := hv2
    refine Run 1000 ?_
    refine Fin_call 16 [I k, I n] (by kernel_rfl) (by kernel_rfl) (crs hh2) (fun v3 hh3 hv3 => ?_)
    obtain ⟨rfl, G3⟩ := hv3
    refine Run 1000 ?_
    refine Fin_call 17 [I k, I n] (by kernel_rfl) (by kernel_rfl) (rgs hh3) (fun v4 hh4 hv4 => ?_)
    obtain ⟨rfl, rfl⟩ := hv4
    obtain ⟨a, kk, rfl, hs⟩ := A.as_strs
    cases inr with
    | false =>
      refine RunA 1000 40 ?_
      refine Fin_call 17 [I k, I n] (by kernel_rfl) (by kernel_rfl) (rgs hh4) (fun v5 hh5 hv5 => ?_)
      obtain ⟨rfl, rfl⟩ := hv5
      refine RunA 1000 40 ?_
      refine Fin_call 20 [I k, I n] (by kernel_rfl) (by kernel_rfl) (rcs hh5) (fun v6 hh6 hv6 => ?_)
      obtain ⟨rfl, G6⟩ := hv6
      rcases hsame with ⟨rfl, rfl, rfl⟩ | ⟨rfl, rfl, rfl⟩
      · refine RunA 1000 2 ?_
        refine Fin_gB false (by kernel_rfl) (Eq.trans (b := .bool (!(c1 == c1))) (by kernel_rfl) (by simp)) ?_
        refine RunA 1000 40 ?_
        refine Fin_call 21 [I k, I n] (by kernel_rfl) (by kernel_rfl) (kn_spec (by kernel_rfl) k n hh6) (fun v9 hh9 hv9 => ?_)
        obtain ⟨rfl, rfl⟩ := hv9
        refine RunA 1000 40 ?_
        refine Fin_goto (lpN Tryd.f3 0) hh9 [(0, I (norm 4 k)), (1, I (norm 5 n)), (5, I (2 : Nat))] (by kernel_rfl) (by kernel_rfl) (by kernel_rfl) (fun f' hf' => K f' hh9 _ _ hf')
      · refine RunA 1000 40 ?_
        refine Fin_call 21 [I k, I n] (by kernel_rfl) (by kernel_rfl) (kn_spec (by kernel_rfl) k n hh6) (fun v9 hh9 hv9 => ?_)
        obtain ⟨rfl, rfl⟩ := hv9
        refine RunA 1000 40 ?_
        refine Fin_goto (lpN Tryd.f3 0) hh9 [(0, I (norm 4 k)), (1, I (norm 5 n)), (5, I (2 : Nat))] (by kernel_rfl) (by kernel_rfl) (by kernel_rfl) (fun f' hf' => K f' hh9 _ _ hf')
    | true =>
      have hin : inRange k n = true := einr.symm
      obtain ⟨i1, i2, i3, i4⟩ := inRange_iff.1 hin
      simp only [if_true] at hs ⊢
      refine RunA 1000 40 ?_
      refine Fin_call 17 [I k, I n] (by kernel_rfl) (by kernel_rfl) (rgs hh4) (fun v5 hh5 hv5 => ?_)
      obtain ⟨rfl, rfl⟩ := hv5
      refine RunA 1000 40 ?_
      have rr := rrings_spec (X := AX) refX_AX k.toNat n.toNat (by omega) (by omega) (by omega) hh5
      rw [show ((k.toNat : Nat) : Int) = k by omega, show ((n.toNat : Nat) : Int) = n by omega] at rr
      refine Fin_call 19 [I k, I n] (by kernel_rfl) (by kernel_rfl) rr (fun v7 hh7 A7 => ?_)
      obtain ⟨a7, kk7, rfl, hs7⟩ := A7.as_strs
      refine RunA 1000 40 ?_
      have hlr : (ringsF k.toNat n.toNat).length < 9223372036854775807 := by
        have h1 : (ringsF k.toNat n.toNat).length ≤ (wordsL k.toNat n.toNat).length := by simp only [ringsF, List.length_map]; exact List.length_filter_le _ _
        have h2 := words_len ⟨k.toNat, by omega⟩ ⟨n.toNat, by omega⟩
        simp only at h2
        omega
      refine Fin_call 18 [.slice a (ringsF k.toNat n.toNat).length kk, .slice a7 ((allM k.toNat n.toNat).filter rRingOK).length kk7] (by kernel_rfl) (by kernel_rfl) (texts_spec (by kernel_rfl) hh7 a a7 kk kk7 _ _ hlr ((hs.grow G3).grow A7.grew) hs7) (fun v8 hh8 hv8 => ?_)
      obtain ⟨rfl, rfl⟩ := hv8
      rw [rg_ok hin]
      refine RunA 1000 40 ?_
      refine Fin_call 20 [I k, I n] (by kernel_rfl) (by kernel_rfl) (rcs hh8) (fun v6 hh6 hv6 => ?_)
      obtain ⟨rfl, G6⟩ := hv6
      rcases hsame with ⟨rfl, rfl, rfl⟩ | ⟨rfl, rfl, rfl⟩
      · refine RunA 1000 2 ?_
        refine Fin_gB false (by kernel_rfl) (Eq.trans (b := .bool (!(c1 == c1))) (by kernel_rfl) (by simp)) ?_
        refine RunA 1000 40 ?_
        refine Fin_call 21 [I k, I n] (by kernel_rfl) (by kernel_rfl) (kn_spec (by kernel_rfl) k n hh6) (fun v9 hh9 hv9 => ?_)
        obtain ⟨rfl, rfl⟩ := hv9
        refine RunA 1000 40 ?_
        refine Fin_goto (lpN Tryd.f3 0) hh9 [(0, I (norm 4 k)), (1, I (norm 5 n)), (5, I (2 : Nat))] (by kernel_rfl) (by kernel_rfl) (by kernel_rfl) (fun f' hf' => K f' hh9 _ _ hf')
      · refine RunA 1000 40 ?_
        refine Fin_call 21 [I k, I n] (by kernel_rfl) (by kernel_rfl) (kn_spec (by kernel_rfl) k n hh6) (fun v9 hh9 hv9 => ?_)
        obtain ⟨rfl, rfl⟩ := hv9
        refine RunA 1000 40 ?_
        refine Fin_goto (lpN Tryd.f3 0) hh9 [(0, I (norm 4 k)), (1, I (norm 5 n)), (5, I (2 : Nat))] (by kernel_rfl) (by kernel_rfl) (by kernel_rfl) (fun f' hf' => K f' hh9 _ _ hf')
  · refine RunA 1000 40 ?_
    refine Fin_call 15 [I k, I n] (by kernel_rfl) (by kernel_rfl) Rs (fun v2 hh2 hv2 => ?_)
    obtain ⟨v1, rfl, A⟩ := hv2
    refine Run 1000 ?_
    refine Fin_call 16 [I k, I n] (by kernel_rfl) (by kernel_rfl) (crs hh2) (fun v3 hh3 hv3 => ?_)
    obtain ⟨rfl, G3⟩ := hv3
    refine Run 1000 ?_
    refine Fin_call 17 [I k, I n] (by kernel_rfl) (by kernel_rfl) (rgs hh3) (fun v4 hh4 hv4 => ?_)
    obtain ⟨rfl, rfl⟩ := hv4
    obtain ⟨a, kk, rfl, hs⟩ := A.as_strs
    cases inr with
    | false =>
      refine RunA 1000 40 ?_
      refine Fin_call 17 [I k, I n] (by kernel_rfl) (by kernel_rfl) (rgs hh4) (fun v5 hh5 hv5 => ?_)
      obtain ⟨rfl, rfl⟩ := hv5
      refine RunA 1000 40 ?_
      refine Fin_call 20 [I k, I n] (by kernel_rfl) (by kernel_rfl) (rcs hh5) (fun v6 hh6 hv6 => ?_)
      obtain ⟨rfl, G6⟩ := hv6
      rcases hsame with ⟨rfl, rfl, rfl⟩ | ⟨rfl, rfl, rfl⟩
      · refine RunA 1000 2 ?_
        refine Fin_gB false (by kernel_rfl) (Eq.trans (b := .bool (!(c1 == c1))) (by kernel_rfl) (by simp)) ?_
        refine RunA 1000 40 ?_
        refine Fin_call 21 [I k, I n] (by kernel_rfl) (by kernel_rfl) (kn_spec (by kernel_rfl) k n hh6) (fun v9 hh9 hv9 => ?_)
        obtain ⟨rfl, rfl⟩ := hv9
        refine RunA 1000 40 ?_
        refine Fin_goto (lpN Tryd.f3 0) hh9 [(0, I (norm 4 k)), (1, I (norm 5 n)), (5, I (3 : Nat))] (by kernel_rfl) (by kernel_rfl) (by kernel_rfl) (fun f' hf' => K f' hh9 _ _ hf')
      · refine RunA 1000 40 ?_
        refine Fin_call 21 [I k, I n] (by kernel_rfl) (by kernel_rfl) (kn_spec (by kernel_rfl) k n hh6) (fun v9 hh9 hv9 => ?_)
        obtain ⟨rfl, rfl⟩ := hv9
        refine RunA 1000 40 ?_
        refine Fin_goto (lpN Tryd.f3 0) hh9 [(0, I (norm 4 k)), (1, I (norm 5 n)), (5, I (3 : Nat))] (by kernel_rfl) (by kernel_rfl) (by kernel_rfl) (fun f' hf' => K f' hh9 _ _ hf')
    | true =>
      have hin : inRange k n = true := einr.symm
      obtain ⟨i1, i2, i3, i4⟩ := inRange_iff.1 hin
      simp only [if_true] at hs ⊢
      refine RunA 1000 40 ?_
      refine Fin_call 17 [I k, I n] (by kernel_rfl) (by kernel_rfl) (rgs hh4) (fun v5 hh5 hv5 => ?_)
      obtain ⟨rfl, rfl⟩ := hv5
      refine RunA 1000 40 ?_
      have rr := rrings_spec (X := AX) refX_AX k.toNat n.toNat (by omega) (by omega) (by omega) hh5
      rw [show ((k.toNat : Nat) : Int) = k by omega, show ((n.toNat : Nat) : Int) = n by omega] at rr
      refine Fin_call 19 [I k, I n] (by kernel_rfl) (by kernel_rfl) rr (fun v7 hh7 A7 => ?_)
      obtain ⟨a7, kk7, rfl, hs7⟩ := A7.as_strs
      refine RunA 1000 40 ?_
      have hlr : (ringsF k.toNat n.toNat).length < 9223372036854775807 := by
        have h1 : (ringsF k.toNat n.toNat).length ≤ (wordsL k.toNat n.toNat).length := by simp only [ringsF, List.length_map]; exact List.length_filter_le _ _
        have h2 := words_len ⟨k.toNat, by omega⟩ ⟨n.toNat, by omega⟩
        simp only at h2
        omega
      refine Fin_call 18 [.slice a (ringsF k.toNat n.toNat).length kk, .slice a7 ((allM k.toNat n.toNat).filter rRingOK).length kk7] (by kernel_rfl) (by kernel_rfl) (texts_spec (by kernel_rfl) hh7 a a7 kk kk7 _ _ hlr ((hs.grow G3).grow A7.grew) hs7) (fun v8 hh8 hv8 => ?_)
      obtain ⟨rfl, rfl⟩ := hv8
      rw [rg_ok hin]
      refine RunA 1000 40 ?_
      refine Fin_call 20 [I k, I n] (by kernel_rfl) (by kernel_rfl) (rcs hh8) (fun v6 hh6 hv6 => ?_)
      obtain ⟨rfl, G6⟩ := hv6
      rcases hsame with ⟨rfl, rfl, rfl⟩ | ⟨rfl, rfl, rfl⟩
      · refine RunA 1000 2 ?_
        refine Fin_gB false (by kernel_rfl) (Eq.trans (b := .bool (!(c1 == c1))) (by kernel_rfl) (by simp)) ?_
        refine RunA 1000 40 ?_
        refine Fin_call 21 [I k, I n] (by kernel_rfl) (by kernel_rfl) (kn_spec (by kernel_rfl) k n hh6) (fun v9 hh9 hv9 => ?_)
        obtain ⟨rfl, rfl⟩ := hv9
        refine RunA 1000 40 ?_
        refine Fin_goto (lpN Tryd.f3 0) hh9 [(0, I (norm 4 k)), (1, I (norm 5 n)), (5, I (3 : Nat))] (by kernel_rfl) (by kernel_rfl) (by kernel_rfl) (fun f' hf' => K f' hh9 _ _ hf')
      · refine RunA 1000 40 ?_
        refine Fin_call 21 [I k, I n] (by kernel_rfl) (by kernel_rfl) (kn_spec (by kernel_rfl) k n hh6) (fun v9 hh9 hv9 => ?_)
        obtain ⟨rfl, rfl⟩ := hv9
        refine RunA 1000 40 ?_
        refine Fin_goto (lpN Tryd.f3 0) hh9 [(0, I (norm 4 k)), (1, I (norm 5 n)), (5, I (3 : Nat))] (by kernel_rfl) (by kernel_rfl) (by kernel_rfl) (fun f' hf' => K f' hh9 _ _ hf')

/-- The law. -/
theorem rg_true (k n : Int) : Ca Tryd.prog AX (.fn 3) [I k, I n] H0 (fun v _ => v = .bool true) := by
  refine Ca_fn (fn := Tryd.f3) (c := Tryd.f3.body.getD .skip) (by kernel_rfl) (by kernel_rfl) (by kernel_rfl) (by kernel_rfl) ?_
  refine Run 1000 ?_
  refine Fin_goto (lpN Tryd.f3 0) H0 [(0, I k), (1, I n), (5, I (0 : Nat))] (by kernel_rfl) (by kernel_rfl) (by kernel_rfl) (fun f0 hf0 => ?_)
  refine rg_next k n 0 (Or.inl rfl) H0 (fun f1 h1 k1 n1 hf1 => ?_) f0 hf0
  refine rg_next k1 n1 1 (Or.inr (Or.inl rfl)) h1 (fun f2 h2 k2 n2 hf2 => ?_) f1 hf1
  refine rg_next k2 n2 2 (Or.inr (Or.inr rfl)) h2 (fun f3 h3 k3 n3 hf3 => ?_) f2 hf2
  refine Fin_known _ hf3 ?_
  refine Fin_unrl ?_
  refine RunA 1000 40 ?_
  refine Fin_call 22 [] (by kernel_rfl) (by kernel_rfl) (awake_ca h3) (fun v11 hh11 hv11 => ?_)
  obtain ⟨rfl, rfl⟩ := hv11
  refine Run 1000 ?_
  exact Fin_r (by kernel_rfl) ⟨Or.inr rfl, .bool true, by kernel_rfl, rfl⟩
end Go.Proofs.YtpbmpdocgplhpaaDoor
