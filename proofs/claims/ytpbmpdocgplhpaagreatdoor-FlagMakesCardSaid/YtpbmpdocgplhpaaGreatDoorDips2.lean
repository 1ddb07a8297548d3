/-
  flag.dips, walked.
-/
import Derived.Test.YtpbmpdocgplhpaaGreatDoorDips
import Derived.Test.YtpbmpdocgplhpaaGreatDoorRdK
set_option linter.unusedSimpArgs false
set_option linter.unusedVariables false
set_option maxRecDepth 100000
namespace Go.Proofs.YtpbmpdocgplhpaaGreatDoor
open Go Go.AM

theorem gt_at (L : List ByteArray) (i : Nat) (hi : i < L.length) : gt L i = L[i] := by simp [gt, List.getD, hi]
theorem Strs.ldg {h : AHeap} {b o : Nat} {L : List ByteArray} (s : Strs h (some ⟨b, o, some 1⟩) L) {i off : Nat} (hi : i < L.length) (ho : off = o + i) : aload Tryz.prog h 9 (.pointer (some ⟨b, off, none⟩)) = some (.string (gt L i)) := by
  rw [gt_at L i hi]; exact s.load9 hi rfl ho

theorem dips_loop0 {X : Ext} (x : CmpX X) {Q : AExit → FS → Prop} (h0 : AHeap) (b o kk : Nat) (L : List ByteArray) (hL2 : 2 ≤ L.length) (hL : L.length < 1000) (hs0 : Strs h0 (some ⟨b, o, some 1⟩) L) (e : Nat)
    (K : ∀ f h, Grew h0 h → Knows f [(0, .slice (some ⟨b, o, some 1⟩) L.length kk), (4, I e)] → Fin Tryz.prog X none Tryz.f74.ntmps (brk (lpN Tryz.f74 0)) .normal ⟨f, h⟩ Q) :
    ∀ (t i : Nat) (f : Nat → Value) (h : AHeap), i + t = L.length → endGo L t i = e → Grew h0 h → Knows f [(0, .slice (some ⟨b, o, some 1⟩) L.length kk), (3, I L.length), (4, I 0), (13, .slice (some ⟨b, o, some 1⟩) L.length kk), (14, I L.length), (15, I i)] →
    Fin Tryz.prog X none Tryz.f74.ntmps (lpN Tryz.f74 0) .normal ⟨f, h⟩ Q := by
  intro t
  induction t with
  | zero =>
    intro i f h hi he hG hf
    refine Fin_known _ hf ?_
    refine Fin_unrl ?_
    refine Run 1000 ?_
    refine Fin_c ((i : Int) < L.length) (by kernel_rfl) (fun h1 => by omega) (fun h1 => ?_)
    refine Esc (brk (lpN Tryz.f74 0)) h [(0, .slice (some ⟨b, o, some 1⟩) L.length kk), (4, I (0 : Nat))] (by kernel_rfl) rfl (by kernel_rfl) (fun f' hf' => ?_)
    have : e = 0 := by rw [← he]; rfl
    subst this
    exact K f' h hG hf'
  | succ t ih =>
    intro i f h hi he hG hf
    have hlt : i < L.length := by omega
    have hs := hs0.grow hG
    have w0 : IntKind.wrap .i64 ((i : Int) + L.length) = ((i + L.length : Nat) : Int) := by rw [wrap_small (by omega) (by omega)]; simp
    have w2 : IntKind.wrap .i64 (IntKind.wrap .i64 ((i : Int) + L.length) - 2) = ((i + L.length - 2 : Nat) : Int) := by rw [w0, wrap_small (by omega) (by omega)]; omega
    have w1 : IntKind.wrap .i64 (IntKind.wrap .i64 ((i : Int) + L.length) - 1) = ((i + L.length - 1 : Nat) : Int) := by rw [w0, wrap_small (by omega) (by omega)]; omega
    have r2 := rem_ok (x := i + L.length - 2) (n := L.length) (by omega)
    have r1 := rem_ok (x := i + L.length - 1) (n := L.length) (by omega)
    rw [← w2] at r2
    rw [← w1] at r1
    obtain ⟨p2, ep2⟩ : ∃ p, p = (i + L.length - 2) % L.length := ⟨_, rfl⟩
    obtain ⟨p1, ep1⟩ : ∃ p, p = (i + L.length - 1) % L.length := ⟨_, rfl⟩
    rw [← ep2] at r2
    rw [← ep1] at r1
    have l2 : p2 < L.length := by rw [ep2]; exact Nat.mod_lt _ (by omega)
    have l1 : p1 < L.length := by rw [ep1]; exact Nat.mod_lt _ (by omega)
    have hnext : IntKind.wrap .i64 ((i : Int) + 1) = ((i + 1 : Nat) : Int) := wrap_next hlt (by omega)
    have hdip : dipAt L i = (decide (cmpF (gt L p2) (gt L p1) ≥ 0) && decide (cmpF (gt L p1) (gt L i) < 0)) := by unfold dipAt; rw [← ep2, ← ep1]
    simp only [endGo, hdip] at he
    refine Fin_known _ hf ?_
    refine Fin_unrl ?_
    refine Run 1000 ?_
    refine Fin_c ((i : Int) < L.length) (by kernel_rfl) (fun h1 => ?_) (fun h1 => by omega)
    refine Run 1000 ?_
    refine Draw (by kernel_rfl) ?_
    refine Run 1000 ?_
    refine Bin .rem 3 (I (IntKind.wrap .i64 (IntKind.wrap .i64 ((i : Int) + L.length) - 2))) (I L.length) (I p2) (by kernel_rfl) (by kernel_rfl) r2 ?_
    refine Run 1000 ?_
    refine IdxA 27 b o 1 L.length kk .i64 p2 (by kernel_rfl) (by kernel_rfl) ti22 rfl ti9 rfl (by omega) (by omega) ?_
    refine Run 1000 ?_
    refine Load 9 (.pointer (some ⟨b, o + (p2 : Int).toNat * 1, none⟩)) (.string (gt L p2)) (by kernel_rfl) (by kernel_rfl) (hs.ldg l2 (by simp)) ?_
    refine Run 1000 ?_
    refine Bin .rem 3 (I (IntKind.wrap .i64 (IntKind.wrap .i64 ((i : Int) + L.length) - 1))) (I L.length) (I p1) (by kernel_rfl) (by kernel_rfl) r1 ?_
    refine Run 1000 ?_
    refine IdxA 27 b o 1 L.length kk .i64 p1 (by kernel_rfl) (by kernel_rfl) ti22 rfl ti9 rfl (by omega) (by omega) ?_
    refine Run 1000 ?_
    refine Load 9 (.pointer (some ⟨b, o + (p1 : Int).toNat * 1, none⟩)) (.string (gt L p1)) (by kernel_rfl) (by kernel_rfl) (hs.ldg l1 (by simp)) ?_
    refine Run 1000 ?_
    refine Fin_call 112 [.string (gt L p2), .string (gt L p1)] (by kernel_rfl) (by kernel_rfl) (compare_spec x _ _ h) (fun v1 hh1 hv1 => ?_)
    obtain ⟨rfl, G1⟩ := hv1
    have hs1 := hs.grow G1
    refine Run 1000 ?_
    refine Fin_g (cmpF (gt L p2) (gt L p1) ≥ 0) (by kernel_rfl) (by kernel_rfl) (fun h2 => ?_) (fun h2 => ?_)
    · rw [decide_eq_true h2, Bool.true_and] at he
      refine Run 1000 ?_
      refine Bin .rem 3 (I (IntKind.wrap .i64 (IntKind.wrap .i64 ((i : Int) + L.length) - 1))) (I L.length) (I p1) (by kernel_rfl) (by kernel_rfl) r1 ?_
      refine Run 1000 ?_
      refine IdxA 27 b o 1 L.length kk .i64 p1 (by kernel_rfl) (by kernel_rfl) ti22 rfl ti9 rfl (by omega) (by omega) ?_
      refine Run 1000 ?_
      refine Load 9 (.pointer (some ⟨b, o + (p1 : Int).toNat * 1, none⟩)) (.string (gt L p1)) (by kernel_rfl) (by kernel_rfl) (hs1.ldg l1 (by simp)) ?_
      refine Run 1000 ?_
      refine IdxA 27 b o 1 L.length kk .i64 i (by kernel_rfl) (by kernel_rfl) ti22 rfl ti9 rfl (by omega) (by omega) ?_
      refine Run 1000 ?_
      refine Load 9 (.pointer (some ⟨b, o + (i : Int).toNat * 1, none⟩)) (.string (gt L i)) (by kernel_rfl) (by kernel_rfl) (hs1.ldg hlt (by simp)) ?_
      refine Run 1000 ?_
      refine Fin_call 112 [.string (gt L p1), .string (gt L i)] (by kernel_rfl) (by kernel_rfl) (compare_spec x _ _ hh1) (fun v3 hh3 hv3 => ?_)
      obtain ⟨rfl, G3⟩ := hv3
      refine Run 1000 ?_
      refine Fin_c (cmpF (gt L p1) (gt L i) < 0) (by kernel_rfl) (fun h4 => ?_) (fun h4 => ?_)
      · rw [decide_eq_true h4, cond_true] at he
        refine Esc (brk (lpN Tryz.f74 0)) hh3 [(0, .slice (some ⟨b, o, some 1⟩) L.length kk), (4, I (IntKind.wrap .i64 ((i : Int) + 1)))] (by kernel_rfl) rfl (by kernel_rfl) (fun f' hf' => ?_)
        rw [hnext, he] at hf'
        exact K f' hh3 (hG.trans (G1.trans G3)) hf'
      · rw [decide_eq_false h4, cond_false] at he
        refine Run 1000 ?_
        refine Fin_goto (lpN Tryz.f74 0) hh3 [(0, .slice (some ⟨b, o, some 1⟩) L.length kk), (3, I L.length), (4, I 0), (13, .slice (some ⟨b, o, some 1⟩) L.length kk), (14, I L.length), (15, I (IntKind.wrap .i64 ((i : Int) + 1)))] (by kernel_rfl) rfl (by kernel_rfl) (fun f' hf' => ?_)
        rw [hnext] at hf'
        exact ih (i + 1) f' hh3 (by omega) he (hG.trans (G1.trans G3)) hf'
    · rw [decide_eq_false h2, Bool.false_and, cond_false] at he
      refine RunA 1000 1 ?_
      refine Fin_goto (lpN Tryz.f74 0) hh1 [(0, .slice (some ⟨b, o, some 1⟩) L.length kk), (3, I L.length), (4, I 0), (13, .slice (some ⟨b, o, some 1⟩) L.length kk), (14, I L.length), (15, I (IntKind.wrap .i64 ((i : Int) + 1)))] (by kernel_rfl) rfl (by kernel_rfl) (fun f' hf' => ?_)
      rw [hnext] at hf'
      exact ih (i + 1) f' hh1 (by omega) he (hG.trans G1) hf'

theorem dips_loop1 {X : Ext} (x : CmpX X) (h0 h1 : AHeap) (g01 : Grew h0 h1) (a : Option Addr) (kr : Nat) (R : List ByteArray) (hR : R.length < 1000) (hs1 : Strs h1 a R) (res : List (List ByteArray)) :
    ∀ (t i : Nat) (f : Nat → Value) (hb h : AHeap) (vO vN : Value) (D : List (List ByteArray)) (N : List ByteArray), i + t = R.length → dipsGo (R.drop i) D N = res → D.length ≤ i → N.length ≤ i → OutS h1 hb vO D → Acc hb h vN N → Knows f [(65, .slice a R.length kr), (66, I R.length), (67, I i), (6, vO), (7, vN)] →
    Fin Tryz.prog X none Tryz.f74.ntmps (lpN Tryz.f74 1) .normal ⟨f, h⟩ (fun e y => (e = .normal ∨ e = .ret) ∧ ∃ v, fresults Tryz.prog Tryz.f74.results.toList y = some v ∧ (∃ a k, v = .slice a res.length k ∧ SStrs y.h a res) ∧ Grew h0 y.h) := by
  intro t
  induction t with
  | zero =>
    intro i f hb h vO vN D N hi he hD hN O A hf
    rw [List.drop_of_length_le (by omega)] at he
    have : D = res := he
    subst this
    obtain ⟨aO, kO, rfl, sO⟩ := O.sstrs
    refine Fin_known _ hf ?_
    refine Fin_unrl ?_
    refine Run 1000 ?_
    refine Fin_c ((i : Int) < R.length) (by kernel_rfl) (fun h1 => by omega) (fun h1 => ?_)
    refine Run 1000 ?_
    exact Fin_r (by kernel_rfl) ⟨Or.inr rfl, .slice aO D.length kO, by kernel_rfl, ⟨aO, kO, rfl, sO.grow A.grew⟩, g01.trans (O.old.trans A.grew)⟩
  | succ t ih =>
    intro i f hb h vO vN D N hi he hD hN O A hf
    have hlt : i < R.length := by omega
    have hG := O.old.trans A.grew
    obtain ⟨b, o, rfl, hld⟩ := (hs1.grow hG).at hlt
    obtain ⟨w, ew⟩ : ∃ w, w = R[i] := ⟨_, rfl⟩
    rw [← ew] at hld
    have hdrop : R.drop i = w :: R.drop (i + 1) := by rw [ew]; exact List.drop_eq_getElem_cons hlt
    rw [hdrop] at he
    simp only [dipsGo] at he
    obtain ⟨v2, h2, ea, A2, _, _⟩ := A.app w (by omega)
    obtain ⟨N', eN⟩ : ∃ N', N' = N ++ [w] := ⟨_, rfl⟩
    rw [← eN] at A2 he
    have hN' : N'.length = N.length + 1 := by rw [eN]; simp
    obtain ⟨bN, hbN, rfl, hrN⟩ := A2.row (by omega)
    have sN : Strs h2 (some ⟨bN, 0, some 1⟩) N' := ⟨Or.inr ⟨bN, 0, rfl⟩, fun j hj => ⟨bN, 0, _, true, rfl, hrN, by rw [Nat.zero_add]; exact strs_get (List.getElem?_eq_getElem hj)⟩⟩
    have hnext : IntKind.wrap .i64 ((i : Int) + 1) = ((i + 1 : Nat) : Int) := wrap_next hlt (by omega)
    have hdip : dipEnd N' = (decide (1 < N'.length) && decide (cmpF (gt N' (N'.length - 2)) (gt N' (N'.length - 1)) < 0)) := rfl
    have hpush : ∀ hh5 : AHeap, ∃ p : Value × AHeap, Grew h2 hh5 → aappend Tryz.prog (hh5 ++ [AObj.row [Value.slice (some ⟨bN, 0, some 1⟩) N'.length (N'.length + 1)] true]) 121 vO (.slice (some ⟨hh5.length, 0, some 1⟩) 1 1) = some (p.1, p.2) ∧ OutS h1 p.2 p.1 (D ++ [N']) := by
      intro hh5
      by_cases g : Grew h2 hh5
      · obtain ⟨v6, h6, e6, O6⟩ := O.push (kN := N'.length + 1) (A2.more g).grew hbN (g.at hrN) (by omega)
        exact ⟨(v6, h6), fun _ => ⟨e6, O6⟩⟩
      · exact ⟨(vO, hh5), fun g2 => absurd g2 g⟩
    obtain ⟨p6, hp6⟩ := Classical.axiomOfChoice hpush
    refine Fin_known _ hf ?_
    refine Fin_unrl ?_
    refine Run 1000 ?_
    refine Fin_c ((i : Int) < R.length) (by kernel_rfl) (fun h1 => ?_) (fun h1 => by omega)
    refine Run 1000 ?_
    refine IdxA 27 b o 1 R.length kr .i64 i (by kernel_rfl) (by kernel_rfl) ti22 rfl ti9 rfl (by omega) (by omega) ?_
    refine Run 1000 ?_
    refine Load 9 (.pointer (some ⟨b, o + (i : Int).toNat * 1, none⟩)) (.string w) (by kernel_rfl) (by kernel_rfl) (by simpa using hld) ?_
    refine Run 1000 ?_
    refine Bld 27 1 [(0, .string w)] (.slice (some ⟨h.length, 0, some 1⟩) 1 1) (h ++ [AObj.row [Value.string w] true]) (by kernel_rfl) (by kernel_rfl) (by simp [abuildSlice, ti22, ti9, zerosOf, afill, splice, isCell, Value.cells, isData]) ?_
    refine Run 1000 ?_
    refine App 27 27 vN (.slice (some ⟨h.length, 0, some 1⟩) 1 1) (.slice (some ⟨bN, 0, some 1⟩) N'.length (N'.length + 1)) h2 (by kernel_rfl) (by kernel_rfl) Tryz.underlying27 (by simp) ea ?_
    refine Run 1000 ?_
    refine Draw (by kernel_rfl) ?_
    refine Run 1000 ?_
    refine Fin_g ((N'.length : Int) > 1) (by kernel_rfl) (by kernel_rfl) (fun h3 => ?_) (fun h3 => ?_)
    · have w2 : IntKind.wrap .i64 ((N'.length : Int) - 2) = ((N'.length - 2 : Nat) : Int) := by rw [wrap_small (by omega) (by omega)]; omega
      have w1 : IntKind.wrap .i64 ((N'.length : Int) - 1) = ((N'.length - 1 : Nat) : Int) := by rw [wrap_small (by omega) (by omega)]; omega
      rw [hdip, decide_eq_true (show 1 < N'.length by omega), Bool.true_and] at he
      refine Run 1000 ?_
      refine IdxA 27 bN 0 1 N'.length (N'.length + 1) .i64 (IntKind.wrap .i64 ((N'.length : Int) - 2)) (by kernel_rfl) (by kernel_rfl) ti22 rfl ti9 rfl (by omega) (by omega) ?_
      refine Run 1000 ?_
      refine Load 9 (.pointer (some ⟨bN, 0 + (IntKind.wrap .i64 ((N'.length : Int) - 2)).toNat * 1, none⟩)) (.string (gt N' (N'.length - 2))) (by kernel_rfl) (by kernel_rfl) (sN.ldg (by omega) (by rw [w2]; simp)) ?_
      refine Run 1000 ?_
      refine IdxA 27 bN 0 1 N'.length (N'.length + 1) .i64 (IntKind.wrap .i64 ((N'.length : Int) - 1)) (by kernel_rfl) (by kernel_rfl) ti22 rfl ti9 rfl (by omega) (by omega) ?_
      refine Run 1000 ?_
      refine Load 9 (.pointer (some ⟨bN, 0 + (IntKind.wrap .i64 ((N'.length : Int) - 1)).toNat * 1, none⟩)) (.string (gt N' (N'.length - 1))) (by kernel_rfl) (by kernel_rfl) (sN.ldg (by omega) (by rw [w1]; simp)) ?_
      refine Run 1000 ?_
      refine Fin_call 112 [.string (gt N' (N'.length - 2)), .string (gt N' (N'.length - 1))] (by kernel_rfl) (by kernel_rfl) (compare_spec x _ _ h2) (fun v5 hh5 hv5 => ?_)
      obtain ⟨rfl, G5⟩ := hv5
      have A5 := A2.more G5
      refine Run 1000 ?_
      refine Fin_c (cmpF (gt N' (N'.length - 2)) (gt N' (N'.length - 1)) < 0) (by kernel_rfl) (fun h4 => ?_) (fun h4 => ?_)
      · rw [decide_eq_true h4, cond_true] at he
        have q6 := hp6 hh5 G5
        refine Run 1000 ?_
        refine Bld 121 1 [(0, .slice (some ⟨bN, 0, some 1⟩) N'.length (N'.length + 1))] (.slice (some ⟨hh5.length, 0, some 1⟩) 1 1) (hh5 ++ [AObj.row [Value.slice (some ⟨bN, 0, some 1⟩) N'.length (N'.length + 1)] true]) (by kernel_rfl) (by kernel_rfl) (by simp [abuildSlice, ti98, ti22, zerosOf, afill, splice, isCell, Value.cells, isData]) ?_
        refine Run 1000 ?_
        refine App 121 121 vO (.slice (some ⟨hh5.length, 0, some 1⟩) 1 1) (p6 hh5).1 (p6 hh5).2 (by kernel_rfl) (by kernel_rfl) Tryz.underlying121 (by simp) q6.1 ?_
        refine Run 1000 ?_
        refine Fin_goto (lpN Tryz.f74 1) (p6 hh5).2 [(65, .slice (some ⟨b, o, some 1⟩) R.length kr), (66, I R.length), (67, I (IntKind.wrap .i64 ((i : Int) + 1))), (6, (p6 hh5).1), (7, .slice none 0 0)] (by kernel_rfl) rfl (by kernel_rfl) (fun f' hf' => ?_)
        rw [hnext] at hf'
        exact ih (i + 1) f' (p6 hh5).2 (p6 hh5).2 (p6 hh5).1 _ (D ++ [N']) [] (by omega) he (by simp; omega) (by simp) q6.2 (Acc.nil _) hf'
      · rw [decide_eq_false h4, cond_false] at he
        refine Run 1000 ?_
        refine Fin_goto (lpN Tryz.f74 1) hh5 [(65, .slice (some ⟨b, o, some 1⟩) R.length kr), (66, I R.length), (67, I (IntKind.wrap .i64 ((i : Int) + 1))), (6, vO), (7, .slice (some ⟨bN, 0, some 1⟩) N'.length (N'.length + 1))] (by kernel_rfl) rfl (by kernel_rfl) (fun f' hf' => ?_)
        rw [hnext] at hf'
        exact ih (i + 1) f' hb hh5 vO _ D N' (by omega) he (by omega) (by omega) O A5 hf'
    · rw [hdip, decide_eq_false (show ¬1 < N'.length by omega), Bool.false_and, cond_false] at he
      refine RunA 1000 1 ?_
      refine Fin_goto (lpN Tryz.f74 1) h2 [(65, .slice (some ⟨b, o, some 1⟩) R.length kr), (66, I R.length), (67, I (IntKind.wrap .i64 ((i : Int) + 1))), (6, vO), (7, .slice (some ⟨bN, 0, some 1⟩) N'.length (N'.length + 1))] (by kernel_rfl) rfl (by kernel_rfl) (fun f' hf' => ?_)
      rw [hnext] at hf'
      exact ih (i + 1) f' hb h2 vO _ D N' (by omega) he (by omega) (by omega) O A2 hf'

/-- What 'dips' answers. -/
theorem dips_spec {X : Ext} (hX : X 74 = none) (hX67 : X 113 = none) (x : CmpX X) (h : AHeap) (a : Option Addr) (kk : Nat) (L : List ByteArray) (hL2 : 2 ≤ L.length) (hL : L.length < 1000) (hs : Strs h a L) :
    Ca Tryz.prog X (.fn 74) [.slice a L.length kk] h (fun v h' => (∃ a k, v = .slice a (dipsF L).length k ∧ SStrs h' a (dipsF L)) ∧ Grew h h') := by
  obtain ⟨b, o, rfl, _⟩ := hs.at (i := 0) (by omega)
  obtain ⟨e, ee⟩ : ∃ e, e = endF L := ⟨_, rfl⟩
  have hel : e ≤ L.length := by rw [ee]; exact endGo_le L _ _ (by omega)
  obtain ⟨R, eR⟩ : ∃ R, R = rot L e := ⟨_, rfl⟩
  have hRl : R.length = L.length := by rw [eR]; unfold rot; simp; omega
  refine Ca_fn (fn := Tryz.f74) (c := Tryz.f74.body.getD .skip) hX (by kernel_rfl) (by kernel_rfl) (by kernel_rfl) ?_
  refine Run 1000 ?_
  refine Fin_goto (lpN Tryz.f74 0) h [(0, .slice (some ⟨b, o, some 1⟩) L.length kk), (3, I L.length), (4, I 0), (13, .slice (some ⟨b, o, some 1⟩) L.length kk), (14, I L.length), (15, I (0 : Nat))] (by kernel_rfl) rfl (by kernel_rfl) (fun f' hf' => ?_)
  refine dips_loop0 x h b o kk L hL2 hL hs e (fun f1 h1 G1 hf1 => ?_) L.length 0 f' h (by omega) ee.symm (Grew.refl _) hf'
  have s1 := hs.grow G1
  obtain ⟨ad, kd, ed, sd⟩ := slice_on s1 kk e hel
  obtain ⟨at', kt, et, st⟩ := slice_upto s1 kk e hel
  obtain ⟨h2, e2⟩ : ∃ h2, h2 = h1 ++ [AObj.row [Value.slice ad (L.drop e).length kd, Value.slice at' (L.take e).length kt] true] := ⟨_, rfl⟩
  have G2 : Grew h1 h2 := ⟨_, e2⟩
  have hq : h2[h1.length]? = some (.row [Value.slice ad (L.drop e).length kd, Value.slice at' (L.take e).length kt] true) := by rw [e2, List.getElem?_append_right (Nat.le_refl _)]; simp
  have c67 := joined_spec hX67 h2 h1.length 2 true ad at' kd kt (L.drop e) (L.take e) hq (sd.grow G2) (st.grow G2) (by simp; omega)
  rw [show L.drop e ++ L.take e = R from eR.symm] at c67
  refine Fin_known _ hf1 ?_
  refine Run 1000 ?_
  refine Draw (by kernel_rfl) ?_
  refine Run 1000 ?_
  refine Slic 27 (.slice (some ⟨b, o, some 1⟩) L.length kk) (.slice ad (L.drop e).length kd) (some (I e)) none none (by kernel_rfl) (by kernel_rfl) ed ?_
  refine Run 1000 ?_
  refine Slic 27 (.slice (some ⟨b, o, some 1⟩) L.length kk) (.slice at' (L.take e).length kt) none (some (I e)) none (by kernel_rfl) (by kernel_rfl) et ?_
  refine Run 1000 ?_
  refine Bld 121 2 [(0, .slice ad (L.drop e).length kd), (1, .slice at' (L.take e).length kt)] (.slice (some ⟨h1.length, 0, some 1⟩) 2 2) h2 (by kernel_rfl) (by kernel_rfl) (by rw [e2]; simp [abuildSlice, ti98, ti22, zerosOf, afill, splice, isCell, Value.cells, isData]) ?_
  refine Run 1000 ?_
  refine Fin_call 113 [.slice (some ⟨h1.length, 0, some 1⟩) 2 2] (by kernel_rfl) (by kernel_rfl) c67 (fun v3 h3 A3 => ?_)
  have G3 := A3.grew
  obtain ⟨ar, kr, rfl, sr⟩ := A3.as_strs
  refine Run 1000 ?_
  refine Fin_goto (lpN Tryz.f74 1) h3 [(65, .slice ar R.length kr), (66, I R.length), (67, I (0 : Nat)), (6, .slice none 0 0), (7, .slice none 0 0)] (by kernel_rfl) rfl (by kernel_rfl) (fun f2 hf2 => ?_)
  exact dips_loop1 x h h3 (G1.trans (G2.trans G3)) ar kr R (by omega) sr (dipsF L) R.length 0 f2 h3 h3 _ _ [] [] (by omega) (by rw [List.drop_zero, eR, ee]; rfl) (by simp) (by simp) ⟨Grew.refl _, Or.inl ⟨rfl, rfl⟩⟩ (Acc.nil h3) hf2
end Go.Proofs.YtpbmpdocgplhpaaGreatDoor
