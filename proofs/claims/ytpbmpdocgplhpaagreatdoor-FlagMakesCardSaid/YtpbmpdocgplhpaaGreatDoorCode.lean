/-
  The reference's Code.
-/
import Derived.Test.YtpbmpdocgplhpaaGreatDoorMH
import Derived.Test.YtpbmpdocgplhpaaGreatDoorMF
set_option linter.unusedSimpArgs false
set_option linter.unusedVariables false
set_option maxRecDepth 100000
namespace Go.Proofs.YtpbmpdocgplhpaaGreatDoor
open Go Go.AM

theorem code_loop {X : Ext} (hX26 : X 42 = none) (h0 : AHeap) (a : Option Addr) (kk : Nat) (L : List ByteArray) (hL : L.length < 9223372036854775807) (hst : Strs h0 a L) (k n : Nat) (hk : k ≤ 4) (hn : n ≤ 5) :
    ∀ (t i : Nat) (f : Nat → Value), i + t = L.length → Knows f [(0, I k), (1, I n), (2, .slice a L.length kk), (7, I i)] →
    Fin Tryz.prog X none Tryz.f15.ntmps (lpN Tryz.f15 0) .normal ⟨f, h0⟩ (fun e y => (e = .normal ∨ e = .ret) ∧ ∃ v, fresults Tryz.prog Tryz.f15.results.toList y = some v ∧ v = .bool (codeGo k n (prevOf L i) (L.drop i)) ∧ y.h = h0) := by
  intro t
  induction t with
  | zero =>
    intro i f hi hf
    refine Fin_known _ hf ?_
    refine Fin_unrl ?_
    refine Run 1000 ?_
    refine Fin_c ((i : Int) < L.length) (by kernel_rfl) (fun h1 => by omega) (fun h1 => ?_)
    refine Run 1000 ?_
    refine Fin_r (by kernel_rfl) ⟨Or.inr rfl, .bool true, by kernel_rfl, ?_, rfl⟩
    rw [List.drop_of_length_le (by omega)]; rfl
  | succ t ih =>
    intro i f hi hf
    have hlt : i < L.length := by omega
    obtain ⟨b, o, rfl, _⟩ := hst.at hlt
    obtain ⟨w, ew⟩ : ∃ w, w = L[i] := ⟨_, rfl⟩
    have hdrop : L.drop i = w :: L.drop (i + 1) := by rw [ew]; exact List.drop_eq_getElem_cons hlt
    have hnext : IntKind.wrap .i64 ((i : Int) + 1) = ((i + 1 : Nat) : Int) := wrap_next (n := L.length) hlt hL
    have hprev : prevOf L (i + 1) = some w := by
      unfold prevOf
      rw [if_neg (by omega), Nat.add_sub_cancel, List.getElem?_eq_getElem hlt, ew]
    have hld : ∀ {j : Nat} (hj : j < L.length) {off : Nat}, off = o + j → aload Tryz.prog h0 9 (.pointer (some ⟨b, off, none⟩)) = some (.string L[j]) := by
      intro j hj off ho
      exact hst.load9 hj rfl ho
    have hldi : aload Tryz.prog h0 9 (.pointer (some ⟨b, o + (i : Int).toNat * 1, none⟩)) = some (.string w) := by rw [ew]; exact hld hlt (by simp)
    rw [hdrop]
    simp only [codeGo]
    refine Fin_known _ hf ?_
    refine Fin_unrl ?_
    refine Run 1000 ?_
    refine Fin_c ((i : Int) < L.length) (by kernel_rfl) (fun h1 => ?_) (fun h1 => by omega)
    refine Run 1000 ?_
    refine Draw (by kernel_rfl) ?_
    refine Run 1000 ?_
    refine IdxA 27 b o 1 L.length kk .i64 i (by kernel_rfl) (by kernel_rfl) ti22 rfl ti9 rfl (by omega) (by omega) ?_
    refine Run 1000 ?_
    refine Load 9 (.pointer (some ⟨b, o + (i : Int).toNat * 1, none⟩)) (.string w) (by kernel_rfl) (by kernel_rfl) hldi ?_
    refine Run 1000 ?_
    refine Fin_g2 (!((w.size : Int) == n)) (by kernel_rfl) (by kernel_rfl) (fun hb => ?_) (fun hb => ?_)
    · have hne : ¬w.size = n := by intro e; simp [e] at hb
      refine RunA 1000 10 ?_
      refine Fin_r (by kernel_rfl) ⟨Or.inr rfl, .bool false, by kernel_rfl, ?_, rfl⟩
      rw [decide_eq_false hne]; rfl
    · have he0 : (w.size : Int) = n := by simpa using hb
      have he : w.size = n := by omega
      rw [decide_eq_true he, Bool.true_and]
      refine Run 1000 ?_
      refine IdxA 27 b o 1 L.length kk .i64 i (by kernel_rfl) (by kernel_rfl) ti22 rfl ti9 rfl (by omega) (by omega) ?_
      refine Run 1000 ?_
      refine Load 9 (.pointer (some ⟨b, o + (i : Int).toNat * 1, none⟩)) (.string w) (by kernel_rfl) (by kernel_rfl) hldi ?_
      refine Run 1000 ?_
      refine Fin_call 42 [.string w, I k] (by kernel_rfl) (by kernel_rfl) (lett_spec hX26 k hk w (by omega) h0) (fun v10 hh10 hv10 => ?_)
      obtain ⟨rfl, rfl⟩ := hv10
      cases ho : overF k w with
      | false =>
        refine RunA 1000 10 ?_
        exact Fin_r (by kernel_rfl) ⟨Or.inr rfl, .bool false, by kernel_rfl, rfl, rfl⟩
      | true =>
        rw [Bool.true_and]
        refine RunA 1000 1 ?_
        refine Fin_g ((i : Int) > 0) (by kernel_rfl) (by kernel_rfl) (fun h3 => ?_) (fun h3 => ?_)
        · have hlt1 : i - 1 < L.length := by omega
          have hw1 : IntKind.wrap .i64 ((i : Int) - 1) = ((i - 1 : Nat) : Int) := wrap_pred (by omega) (by omega)
          have hp : prevOf L i = some L[i - 1] := by
            unfold prevOf; rw [if_neg (by omega), List.getElem?_eq_getElem hlt1]
          rw [hp]
          simp only [prevOK]
          refine Run 1000 ?_
          refine IdxA 27 b o 1 L.length kk .i64 (IntKind.wrap .i64 ((i : Int) - 1)) (by kernel_rfl) (by kernel_rfl) ti22 rfl ti9 rfl (by omega) (by omega) ?_
          refine Run 1000 ?_
          refine Load 9 (.pointer (some ⟨b, o + (IntKind.wrap .i64 ((i : Int) - 1)).toNat * 1, none⟩)) (.string L[i - 1]) (by kernel_rfl) (by kernel_rfl) (hld hlt1 (by rw [hw1]; simp)) ?_
          refine Run 1000 ?_
          refine IdxA 27 b o 1 L.length kk .i64 i (by kernel_rfl) (by kernel_rfl) ti22 rfl ti9 rfl (by omega) (by omega) ?_
          refine Run 1000 ?_
          refine Load 9 (.pointer (some ⟨b, o + (i : Int).toNat * 1, none⟩)) (.string w) (by kernel_rfl) (by kernel_rfl) hldi ?_
          refine Run 1000 ?_
          refine Fin_c2 (!(ltS L[i - 1] w)) (by kernel_rfl) (fun hb2 => ?_) (fun hb2 => ?_)
          · have hf0 : ltS L[i - 1] w = false := by simpa using hb2
            refine Run 1000 ?_
            refine Fin_r (by kernel_rfl) ⟨Or.inr rfl, .bool false, by kernel_rfl, ?_, rfl⟩
            simp only [hf0]; rfl
          · have hf0 : ltS L[i - 1] w = true := by simpa using hb2
            refine Run 1000 ?_
            refine Fin_goto (lpN Tryz.f15 0) hh10 [(0, I k), (1, I n), (2, .slice (some ⟨b, o, some 1⟩) L.length kk), (7, I (IntKind.wrap .i64 ((i : Int) + 1)))] (by kernel_rfl) (by kernel_rfl) (by kernel_rfl) (fun f' hf' => ?_)
            rw [hnext] at hf'
            have := ih (i + 1) f' (by omega) hf'
            rw [hprev] at this
            simpa only [hf0, Bool.true_and] using this
        · obtain rfl : i = 0 := by omega
          have hp : prevOf L 0 = none := rfl
          rw [hp]
          simp only [prevOK]
          refine RunA 1000 10 ?_
          refine Fin_goto (lpN Tryz.f15 0) hh10 [(0, I k), (1, I n), (2, .slice (some ⟨b, o, some 1⟩) L.length kk), (7, I (IntKind.wrap .i64 (((0 : Nat) : Int) + 1)))] (by kernel_rfl) (by kernel_rfl) (by kernel_rfl) (fun f' hf' => ?_)
          rw [hnext] at hf'
          have := ih (0 + 1) f' (by omega) hf'
          rw [hprev] at this
          simpa only [Bool.true_and] using this
theorem code_spec {X : Ext} (hX : X 15 = none) (hX26 : X 42 = none) (h : AHeap) (a : Option Addr) (kk : Nat) (L : List ByteArray) (hL : L.length < 9223372036854775807) (hst : Strs h a L) (k n : Nat) (hk : k ≤ 4) (hn : n ≤ 5) :
    Ca Tryz.prog X (.fn 15) [I k, I n, .slice a L.length kk] h (fun v h' => v = .bool (codeF k n L) ∧ h' = h) := by
  refine Ca_fn (fn := Tryz.f15) (c := Tryz.f15.body.getD .skip) hX (by kernel_rfl) (by kernel_rfl) (by kernel_rfl) ?_
  refine Run 1000 ?_
  refine Fin_goto (lpN Tryz.f15 0) h [(0, I k), (1, I n), (2, .slice a L.length kk), (7, I (0 : Nat))] (by kernel_rfl) (by kernel_rfl) (by kernel_rfl) (fun f' hf' => ?_)
  exact code_loop hX26 h a kk L hL hst k n hk hn L.length 0 f' (by omega) hf'
end Go.Proofs.YtpbmpdocgplhpaaGreatDoor
