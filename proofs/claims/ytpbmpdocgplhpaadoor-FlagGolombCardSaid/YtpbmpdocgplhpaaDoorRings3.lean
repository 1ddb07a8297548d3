/-
  flag.open without a code; flag.Rings.
-/
import Derived.Test.YtpbmpdocgplhpaaDoorRings2
set_option linter.unusedSimpArgs false
set_option linter.unusedVariables false
set_option maxRecDepth 100000
namespace Go.Proofs.YtpbmpdocgplhpaaDoor
open Go Go.AM

theorem inRange_iff {k n : Int} : inRange k n = true ↔ (1 ≤ k ∧ k ≤ 4 ∧ 1 ≤ n ∧ n ≤ 5) := by simp [inRange]
theorem open_nil {X : Ext} (hX : X 49 = none) (k n : Int) (h : AHeap) :
    Ca Tryd.prog X (.fn 49) [I k, I n, .slice none 0 0] h (fun v h' => v = I (if inRange k n = true then 0 else 1) ∧ h' = h) := by
  have no : ¬(1 ≤ k ∧ k ≤ 4 ∧ 1 ≤ n ∧ n ≤ 5) → I 1 = I (if inRange k n = true then 0 else 1) := by
    intro hh; rw [if_neg (fun h => hh (inRange_iff.1 h))]
  refine Ca_fn (fn := Tryd.f49) (c := Tryd.f49.body.getD .skip) hX (by kernel_rfl) (by kernel_rfl) (by kernel_rfl) ?_
  refine Run 1000 ?_
  refine Fin_g (k < 1) (by kernel_rfl) (by kernel_rfl) (fun h1 => ?_) (fun h1 => ?_)
  · refine Run 1000 ?_
    refine Fin_gB true (by kernel_rfl) (by kernel_rfl) ?_
    refine Run 1000 ?_
    refine Fin_gB true (by kernel_rfl) (by kernel_rfl) ?_
    refine Run 1000 ?_
    refine Fin_cB true (by kernel_rfl) ?_
    refine Run 1000 ?_
    exact Fin_r (by kernel_rfl) ⟨Or.inr rfl, (I 1), by kernel_rfl, no (by omega), rfl⟩
  · refine Run 1000 ?_
    refine Fin_g (k > 4) (by kernel_rfl) (by kernel_rfl) (fun h2 => ?_) (fun h2 => ?_)
    · refine Run 1000 ?_
      refine Fin_gB true (by kernel_rfl) (by kernel_rfl) ?_
      refine Run 1000 ?_
      refine Fin_cB true (by kernel_rfl) ?_
      refine Run 1000 ?_
      exact Fin_r (by kernel_rfl) ⟨Or.inr rfl, (I 1), by kernel_rfl, no (by omega), rfl⟩
    · refine Run 1000 ?_
      refine Fin_g (n < 1) (by kernel_rfl) (by kernel_rfl) (fun h3 => ?_) (fun h3 => ?_)
      · refine Run 1000 ?_
        refine Fin_cB true (by kernel_rfl) ?_
        refine Run 1000 ?_
        exact Fin_r (by kernel_rfl) ⟨Or.inr rfl, (I 1), by kernel_rfl, no (by omega), rfl⟩
      · refine Run 1000 ?_
        refine Fin_c (n > 5) (by kernel_rfl) (fun h4 => ?_) (fun h4 => ?_)
        · refine Run 1000 ?_
          exact Fin_r (by kernel_rfl) ⟨Or.inr rfl, (I 1), by kernel_rfl, no (by omega), rfl⟩
        · refine Run 1000 ?_
          refine Fin_unrl ?_
          refine Run 1000 ?_
          refine Fin_c ((0 : Int) < (0 : Nat)) (by kernel_rfl) (fun h4 => absurd h4 (by decide)) (fun h4 => ?_)
          refine Run 1000 ?_
          refine Fin_r (by kernel_rfl) ⟨Or.inr rfl, (I 0), by kernel_rfl, ?_, rfl⟩
          rw [if_pos (inRange_iff.2 (by omega))]

/-- What 'Rings' answers. -/
theorem Rings_spec {X : Ext} (hX : X 15 = none) (hX2 : X 49 = none) (x : RingX X) (k n : Int) (h : AHeap) :
    Ca Tryd.prog X (.fn 15) [I k, I n] h (fun v h' => ∃ v1, v = .tuple #[v1, I (if inRange k n = true then 0 else 1)] ∧ Acc h h' v1 (if inRange k n = true then ringsF k.toNat n.toNat else [])) := by
  refine Ca_fn (fn := Tryd.f15) (c := Tryd.f15.body.getD .skip) hX (by kernel_rfl) (by kernel_rfl) (by kernel_rfl) ?_
  refine Run 1000 ?_
  refine Fin_call 49 [(I k), (I n), .slice none 0 0] (by kernel_rfl) (by kernel_rfl) (open_nil hX2 k n h) (fun v1 hh1 hv1 => ?_)
  obtain ⟨rfl, rfl⟩ := hv1
  by_cases hr : inRange k n = true
  · rw [if_pos hr]
    refine Run 1000 ?_
    refine Fin_cB false (by kernel_rfl) ?_
    refine Run 1000 ?_
    obtain ⟨h1, h2, h3, h4⟩ := inRange_iff.1 hr
    have hs := rings_spec x k.toNat n.toNat (by omega) (by omega) (by omega) hh1
    rw [show ((k.toNat : Nat) : Int) = k by omega, show ((n.toNat : Nat) : Int) = n by omega] at hs
    refine Fin_call 50 [(I k), (I n)] (by kernel_rfl) (by kernel_rfl) hs (fun v4 hh4 hv4 => ?_)
    refine Run 1000 ?_
    refine Fin_r (by kernel_rfl) ⟨Or.inr rfl, .tuple #[v4, (I 0)], by kernel_rfl, v4, rfl, ?_⟩
    rw [if_pos hr]; exact hv4
  · rw [if_neg hr]
    refine Run 1000 ?_
    refine Fin_cB true (by kernel_rfl) ?_
    refine Run 1000 ?_
    refine Fin_r (by kernel_rfl) ⟨Or.inr rfl, .tuple #[.slice none 0 0, (I 1)], by kernel_rfl, .slice none 0 0, rfl, ?_⟩
    rw [if_neg hr]; exact Acc.nil _
end Go.Proofs.YtpbmpdocgplhpaaDoor
