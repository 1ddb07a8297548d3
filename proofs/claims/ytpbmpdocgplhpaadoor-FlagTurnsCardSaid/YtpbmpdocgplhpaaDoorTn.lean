/-
  'FlagTurns', walked.
-/
import Derived.Test.YtpbmpdocgplhpaaDoorTnPl
import Derived.Test.YtpbmpdocgplhpaaDoorAx2
set_option linter.unusedSimpArgs false
set_option linter.unusedVariables false
set_option maxRecDepth 100000
namespace Go.Proofs.YtpbmpdocgplhpaaDoor
open Go Go.AM

set_option maxHeartbeats 4000000 in
/-- One round of the law. -/
theorem tn_next (s : ByteArray) (hs : s.size < 1000000) (r : Nat) (hr : r = 0 ∨ r = 1) {Q : AExit → FS → Prop} (h : AHeap)
    (K : ∀ f' h' s', s'.size < 1000000 → Knows f' [(0, .string s'), (3, I (r + 1 : Nat))] → Fin Tryd.prog AX2 none Tryd.f9.ntmps (lpN Tryd.f9 0) .normal ⟨f', h'⟩ Q) :
    ∀ f, Knows f [(0, .string s), (3, I r)] → Fin Tryd.prog AX2 none Tryd.f9.ntmps (lpN Tryd.f9 0) .normal ⟨f, h⟩ Q := by
  intro f hf
  have hmod : ∃ n : Nat, 1 ≤ n ∧ n ≤ 5 ∧ IntKind.wrap .i64 (1 + Int.tmod (s.size : Int) 5) = n := by
    refine ⟨s.size % 5 + 1, by omega, by omega, ?_⟩
    have e : Int.tmod (s.size : Int) 5 = ((s.size % 5 : Nat) : Int) := by rw [Int.tmod_eq_emod_of_nonneg (by omega)]; rfl
    rw [e, wrap_small (by omega) (by omega)]; omega
  obtain ⟨n, n1, n5, en⟩ := hmod
  have ow : ∀ h, Ca Tryd.prog AX2 (.fn 40) [.string s, I 4, I (IntKind.wrap .i64 (1 + Int.tmod (s.size : Int) 5))] h (fun v h' => (∃ s', v = .string s' ∧ s'.size < 1000000) ∧ Grew h h') := by
    intro h; rw [en]
    exact (ow_spec (X := AX2) (by kernel_rfl) s (by omega) 4 n (by omega) (by omega) n1 (by omega) h).imp fun v h' ⟨hv, hg⟩ => ⟨⟨_, hv, by rw [gB_size]; simp [ownWord]; omega⟩, hg⟩
  have c1 := isWhole_spec (X := AX2) wordX2 s hs h
  have c2 := fun h => turnsOf_spec (X := AX2) wordX2 s hs h
  have c3 := fun h => firstOf_spec (X := AX2) wordX2 s hs h
  have c4 := fun h => word_spec (X := AX2) (by kernel_rfl) (by kernel_rfl) s hs h
  have facts := t_facts (s := s)
  obtain ⟨b, eb⟩ : ∃ b, b = isWordF s := ⟨_, rfl⟩
  rw [← eb] at c1 c2 c3 c4 facts
  have hw5 : b = true → s.size < 100000 := fun e => by have := isWord_iff.1 (eb.symm.trans e); omega
  clear eb
  cases b with
  | false =>
    rcases hr with rfl | rfl
    · refine Fin_known _ hf ?_
      refine Fin_unrl ?_
      refine RunA 1000 40 ?_
      refine Fin_call 34 [.string s] (by kernel_rfl) (by kernel_rfl) c1 (fun v2 hh2 hv2 => ?_)
      obtain ⟨rfl, G2⟩ := hv2
      refine Run 1000 ?_
      refine Fin_call 36 [.string s] (by kernel_rfl) (by kernel_rfl) (c2 hh2) (fun v3 hh3 hv3 => ?_)
      obtain ⟨a, kk, rfl, hst, G3⟩ := hv3
      refine Run 1000 ?_
      refine Fin_call 35 [.string s] (by kernel_rfl) (by kernel_rfl) (c3 hh3) (fun v4 hh4 hv4 => ?_)
      obtain ⟨rfl, G4⟩ := hv4
      refine Run 1000 ?_
      refine Fin_call 37 [.string s] (by kernel_rfl) (by kernel_rfl) (c4 hh4) (fun v5 hh5 hv5 => ?_)
      obtain ⟨rfl, rfl⟩ := hv5
      refine RunA 1000 40 ?_
      refine Fin_call 40 [.string s, I 4, I (IntKind.wrap .i64 (1 + Int.tmod (s.size : Int) 5))] (by kernel_rfl) (by kernel_rfl) (ow hh5) (fun v9 hh9 hv9 => ?_)
      obtain ⟨⟨s', rfl, hs'⟩, _⟩ := hv9
      refine Run 1000 ?_
      exact Fin_goto (lpN Tryd.f9 0) hh9 [(0, .string s'), (3, I (0 + 1 : Nat))] (by kernel_rfl) (by kernel_rfl) (by kernel_rfl) (fun f' hf' => K f' hh9 s' hs' hf')
    · refine Fin_known _ hf ?_
      refine Fin_unrl ?_
      refine RunA 1000 40 ?_
      refine Fin_call 34 [.string s] (by kernel_rfl) (by kernel_rfl) c1 (fun v2 hh2 hv2 => ?_)
      obtain ⟨rfl, G2⟩ := hv2
      refine Run 1000 ?_
      refine Fin_call 36 [.string s] (by kernel_rfl) (by kernel_rfl) (c2 hh2) (fun v3 hh3 hv3 => ?_)
      obtain ⟨a, kk, rfl, hst, G3⟩ := hv3
      refine Run 1000 ?_
      refine Fin_call 35 [.string s] (by kernel_rfl) (by kernel_rfl) (c3 hh3) (fun v4 hh4 hv4 => ?_)
      obtain ⟨rfl, G4⟩ := hv4
      refine Run 1000 ?_
      refine Fin_call 37 [.string s] (by kernel_rfl) (by kernel_rfl) (c4 hh4) (fun v5 hh5 hv5 => ?_)
      obtain ⟨rfl, rfl⟩ := hv5
      refine RunA 1000 40 ?_
      refine Fin_call 40 [.string s, I 4, I (IntKind.wrap .i64 (1 + Int.tmod (s.size : Int) 5))] (by kernel_rfl) (by kernel_rfl) (ow hh5) (fun v9 hh9 hv9 => ?_)
      obtain ⟨⟨s', rfl, hs'⟩, _⟩ := hv9
      refine Run 1000 ?_
      exact Fin_goto (lpN Tryd.f9 0) hh9 [(0, .string s'), (3, I (1 + 1 : Nat))] (by kernel_rfl) (by kernel_rfl) (by kernel_rfl) (fun f' hf' => K f' hh9 s' hs' hf')
  | true =>
    obtain ⟨f1, f2, u, f3, f4⟩ := facts rfl
    have hwl := hw5 rfl
    have c6 := fun h => rturns_spec (X := AX2) (by kernel_rfl) (by kernel_rfl) s hwl h
    have c7 := fun h => rwhole_spec (X := AX2) (by kernel_rfl) (by kernel_rfl) (by kernel_rfl) s hwl h
    rw [f1] at c1
    obtain ⟨bw, ebw⟩ : ∃ bw, bw = rWhole s := ⟨_, rfl⟩
    rw [← ebw] at c1 c7
    have hT : 0 < (rTurnsTo s s.size).length := by
      by_cases h0 : 0 < (rTurnsTo s s.size).length
      · exact h0
      · rw [List.getElem?_eq_none (by omega)] at f3; simp at f3
    have hsl : (sortedF (turnsTo s s.size)).length < 9223372036854775807 := by
      have h1 := sortM_length ltS (turnsTo s s.size)
      rw [turnsTo_length] at h1
      have h2 : (sortedF (turnsTo s s.size)).length ≤ (sortM ltS (turnsTo s s.size)).length := compactM_length seq _
      omega
    clear ebw
    rcases hr with rfl | rfl
    · refine Fin_known _ hf ?_
      refine Fin_unrl ?_
      refine RunA 1000 40 ?_
      refine Fin_call 34 [.string s] (by kernel_rfl) (by kernel_rfl) c1 (fun v2 hh2 hv2 => ?_)
      obtain ⟨rfl, G2⟩ := hv2
      refine Run 1000 ?_
      refine Fin_call 36 [.string s] (by kernel_rfl) (by kernel_rfl) (c2 hh2) (fun v3 hh3 hv3 => ?_)
      obtain ⟨a, kk, rfl, hst, G3⟩ := hv3
      refine Run 1000 ?_
      refine Fin_call 35 [.string s] (by kernel_rfl) (by kernel_rfl) (c3 hh3) (fun v4 hh4 hv4 => ?_)
      obtain ⟨rfl, G4⟩ := hv4
      refine Run 1000 ?_
      refine Fin_call 37 [.string s] (by kernel_rfl) (by kernel_rfl) (c4 hh4) (fun v5 hh5 hv5 => ?_)
      obtain ⟨rfl, rfl⟩ := hv5
      simp only [if_true] at hst
      refine RunA 1000 40 ?_
      refine Fin_call 38 [.string s] (by kernel_rfl) (by kernel_rfl) (c6 hh5) (fun v6 hh6 A6 => ?_)
      obtain ⟨b6, hb6, rfl, hr6⟩ := A6.row hT
      have G6 := A6.grew
      refine RunA 1000 40 ?_
      refine Fin_call 39 [.string s] (by kernel_rfl) (by kernel_rfl) (c7 hh6) (fun v7 hh7 hv7 => ?_)
      obtain ⟨rfl, G7⟩ := hv7
      have hrow : Strs hh7 (some ⟨b6, 0, some 1⟩) (rTurnsTo s s.size) := ⟨Or.inr ⟨b6, 0, rfl⟩, fun i hi => ⟨b6, 0, strs (rTurnsTo s s.size), true, rfl, G7.at hr6, by rw [Nat.zero_add]; exact strs_get (List.getElem?_eq_getElem hi)⟩⟩
      have hst7 := ((hst.grow G4).grow G6).grow G7
      refine Run 1000 ?_
      refine Fin_gB false (by kernel_rfl) (Eq.trans (b := .bool (bw != bw)) (by kernel_rfl) (by simp)) ?_
      refine RunA 1000 40 ?_
      refine Fin_call 18 [.slice a (sortedF (turnsTo s s.size)).length kk, .slice (some ⟨b6, 0, some 1⟩) (rTurnsTo s s.size).length ((rTurnsTo s s.size).length + 1)] (by kernel_rfl) (by kernel_rfl) (texts_spec (by kernel_rfl) hh7 a (some ⟨b6, 0, some 1⟩) kk _ _ _ hsl hst7 hrow) (fun v8 hh8 hv8 => ?_)
      obtain ⟨rfl, rfl⟩ := hv8
      rw [f2]
      refine RunA 1000 40 ?_
      refine IdxA 22 b6 0 1 (rTurnsTo s s.size).length ((rTurnsTo s s.size).length + 1) .i64 0 (by kernel_rfl) (by kernel_rfl) ti22 rfl ti9 rfl (by omega) (by omega) ?_
      refine Run 1000 ?_
      refine Load 9 (.pointer (some ⟨b6, 0 + (0 : Int).toNat * 1, none⟩)) (.string u) (by kernel_rfl) (by kernel_rfl) (load_str (G7.at hr6) (by simp) f3) ?_
      refine Run 1000 ?_
      refine Fin_cB false (Eq.trans (b := .bool (!(seq (firstF s) u))) (by kernel_rfl) (by rw [f4]; rfl)) ?_
      refine RunA 1000 40 ?_
      refine Fin_call 40 [.string s, I 4, I (IntKind.wrap .i64 (1 + Int.tmod (s.size : Int) 5))] (by kernel_rfl) (by kernel_rfl) (ow hh8) (fun v9 hh9 hv9 => ?_)
      obtain ⟨⟨s', rfl, hs'⟩, _⟩ := hv9
      refine Run 1000 ?_
      exact Fin_goto (lpN Tryd.f9 0) hh9 [(0, .string s'), (3, I (0 + 1 : Nat))] (by kernel_rfl) (by kernel_rfl) (by kernel_rfl) (fun f' hf' => K f' hh9 s' hs' hf')
    · refine Fin_known _ hf ?_
      refine Fin_unrl ?_
      refine RunA 1000 40 ?_
      refine Fin_call 34 [.string s] (by kernel_rfl) (by kernel_rfl) c1 (fun v2 hh2 hv2 => ?_)
      obtain ⟨rfl, G2⟩ := hv2
      refine Run 1000 ?_
      refine Fin_call 36 [.string s] (by kernel_rfl) (by kernel_rfl) (c2 hh2) (fun v3 hh3 hv3 => ?_)
      obtain ⟨a, kk, rfl, hst, G3⟩ := hv3
      refine Run 1000 ?_
      refine Fin_call 35 [.string s] (by kernel_rfl) (by kernel_rfl) (c3 hh3) (fun v4 hh4 hv4 => ?_)
      obtain ⟨rfl, G4⟩ := hv4
      refine Run 1000 ?_
      refine Fin_call 37 [.string s] (by kernel_rfl) (by kernel_rfl) (c4 hh4) (fun v5 hh5 hv5 => ?_)
      obtain ⟨rfl, rfl⟩ := hv5
      simp only [if_true] at hst
      refine RunA 1000 40 ?_
      refine Fin_call 38 [.string s] (by kernel_rfl) (by kernel_rfl) (c6 hh5) (fun v6 hh6 A6 => ?_)
      obtain ⟨b6, hb6, rfl, hr6⟩ := A6.row hT
      have G6 := A6.grew
      refine RunA 1000 40 ?_
      refine Fin_call 39 [.string s] (by kernel_rfl) (by kernel_rfl) (c7 hh6) (fun v7 hh7 hv7 => ?_)
      obtain ⟨rfl, G7⟩ := hv7
      have hrow : Strs hh7 (some ⟨b6, 0, some 1⟩) (rTurnsTo s s.size) := ⟨Or.inr ⟨b6, 0, rfl⟩, fun i hi => ⟨b6, 0, strs (rTurnsTo s s.size), true, rfl, G7.at hr6, by rw [Nat.zero_add]; exact strs_get (List.getElem?_eq_getElem hi)⟩⟩
      have hst7 := ((hst.grow G4).grow G6).grow G7
      refine Run 1000 ?_
      refine Fin_gB false (by kernel_rfl) (Eq.trans (b := .bool (bw != bw)) (by kernel_rfl) (by simp)) ?_
      refine RunA 1000 40 ?_
      refine Fin_call 18 [.slice a (sortedF (turnsTo s s.size)).length kk, .slice (some ⟨b6, 0, some 1⟩) (rTurnsTo s s.size).length ((rTurnsTo s s.size).length + 1)] (by kernel_rfl) (by kernel_rfl) (texts_spec (by kernel_rfl) hh7 a (some ⟨b6, 0, some 1⟩) kk _ _ _ hsl hst7 hrow) (fun v8 hh8 hv8 => ?_)
      obtain ⟨rfl, rfl⟩ := hv8
      rw [f2]
      refine RunA 1000 40 ?_
      refine IdxA 22 b6 0 1 (rTurnsTo s s.size).length ((rTurnsTo s s.size).length + 1) .i64 0 (by kernel_rfl) (by kernel_rfl) ti22 rfl ti9 rfl (by omega) (by omega) ?_
      refine Run 1000 ?_
      refine Load 9 (.pointer (some ⟨b6, 0 + (0 : Int).toNat * 1, none⟩)) (.string u) (by kernel_rfl) (by kernel_rfl) (load_str (G7.at hr6) (by simp) f3) ?_
      refine Run 1000 ?_
      refine Fin_cB false (Eq.trans (b := .bool (!(seq (firstF s) u))) (by kernel_rfl) (by rw [f4]; rfl)) ?_
      refine RunA 1000 40 ?_
      refine Fin_call 40 [.string s, I 4, I (IntKind.wrap .i64 (1 + Int.tmod (s.size : Int) 5))] (by kernel_rfl) (by kernel_rfl) (ow hh8) (fun v9 hh9 hv9 => ?_)
      obtain ⟨⟨s', rfl, hs'⟩, _⟩ := hv9
      refine Run 1000 ?_
      exact Fin_goto (lpN Tryd.f9 0) hh9 [(0, .string s'), (3, I (1 + 1 : Nat))] (by kernel_rfl) (by kernel_rfl) (by kernel_rfl) (fun f' hf' => K f' hh9 s' hs' hf')

/-- The law. -/
theorem tn_true (s : ByteArray) (hs : s.size ≤ 9223372036854775807) : Ca Tryd.prog AX2 (.fn 9) [.string s] H0 (fun v _ => v = .bool true) := by
  refine Ca_fn (fn := Tryd.f9) (c := Tryd.f9.body.getD .skip) (by kernel_rfl) (by kernel_rfl) (by kernel_rfl) (by kernel_rfl) ?_
  refine Run 1000 ?_
  have hmin : ∃ n : Nat, n ≤ s.size ∧ n ≤ 6 ∧ (if (6 : Int) < (s.size : Int) then (6 : Int) else (s.size : Int)) = n := by
    by_cases h : (6 : Int) < (s.size : Int)
    · exact ⟨6, by omega, by omega, if_pos h⟩
    · exact ⟨s.size, by omega, by omega, if_neg h⟩
  obtain ⟨n, n1, n6, en⟩ := hmin
  refine Slic 9 (.string s) (.string (s.extract 0 n)) none (some (I (if (6 : Int) < (s.size : Int) then (6 : Int) else (s.size : Int)))) none (by kernel_rfl) (by kernel_rfl) (by rw [en]; exact slice_to s n n1) ?_
  refine Run 1000 ?_
  refine Fin_goto (lpN Tryd.f9 0) H0 [(0, .string (s.extract 0 n)), (3, I (0 : Nat))] (by kernel_rfl) (by kernel_rfl) (by kernel_rfl) (fun f0 hf0 => ?_)
  refine tn_next _ (by simp; omega) 0 (Or.inl rfl) H0 (fun f1 h1 s1 hs1 hf1 => ?_) f0 hf0
  refine tn_next s1 hs1 1 (Or.inr rfl) h1 (fun f2 h2 s2 hs2 hf2 => ?_) f1 hf1
  refine Fin_known _ hf2 ?_
  refine Fin_unrl ?_
  refine RunA 1000 40 ?_
  refine Fin_call 22 [] (by kernel_rfl) (by kernel_rfl) (awake_ca2 h2) (fun v11 hh11 hv11 => ?_)
  obtain ⟨rfl, rfl⟩ := hv11
  refine Run 1000 ?_
  exact Fin_r (by kernel_rfl) ⟨Or.inr rfl, .bool true, by kernel_rfl, rfl⟩
end Go.Proofs.YtpbmpdocgplhpaaDoor
