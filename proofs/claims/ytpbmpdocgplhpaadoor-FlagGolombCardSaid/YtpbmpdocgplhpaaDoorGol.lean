/-
  'FlagGolomb', walked.
-/
import Derived.Test.YtpbmpdocgplhpaaDoorGolPl
import Derived.Test.YtpbmpdocgplhpaaDoorAwake
set_option linter.unusedSimpArgs false
set_option linter.unusedVariables false
set_option maxRecDepth 100000
namespace Go.Proofs.YtpbmpdocgplhpaaDoor
open Go Go.AM

theorem sortX_AX : SortX AX := ⟨by kernel_rfl, by kernel_rfl, by kernel_rfl, by kernel_rfl, by kernel_rfl, by kernel_rfl, by kernel_rfl, by kernel_rfl, by kernel_rfl⟩
theorem ringX_AX : RingX AX := ⟨sortX_AX, by kernel_rfl, by kernel_rfl, by kernel_rfl, by kernel_rfl, by kernel_rfl, by kernel_rfl, by kernel_rfl⟩
theorem awake_ca (h : AHeap) : Ca Tryd.prog AX (.fn 22) [] h (fun v h' => v = .bool true ∧ h' = h) :=
  Ca_ext (c := fun args h => match args with | [] => some (.bool true, h) | _ => none) (by kernel_rfl) rfl ⟨rfl, rfl⟩

/-- A number brought into 1 .. q. -/
def norm (q k : Int) : Int := IntKind.wrap .i64 (1 + IntKind.wrap .i64 (Int.tmod (IntKind.wrap .u64 k) q))
theorem norm_in (q : Nat) (hq : 0 < q) (hq2 : q < 1000000) (k : Int) : ∃ a : Nat, 1 ≤ a ∧ a ≤ q ∧ norm q k = a := by
  have h1 : 0 ≤ IntKind.wrap .u64 k := by simp [IntKind.wrap, IntKind.bits, IntKind.signed]; omega
  have h2 : Int.tmod (IntKind.wrap .u64 k) q = (IntKind.wrap .u64 k) % q := Int.tmod_eq_emod_of_nonneg h1
  have h3 := Int.emod_nonneg (IntKind.wrap .u64 k) (show (q : Int) ≠ 0 by omega)
  have h4 := Int.emod_lt_of_pos (IntKind.wrap .u64 k) (show (0 : Int) < q by omega)
  refine ⟨((IntKind.wrap .u64 k) % q).toNat + 1, by omega, by omega, ?_⟩
  unfold norm
  rw [h2, wrap_small (n := (IntKind.wrap .u64 k) % q) h3 (by omega), wrap_small (by omega) (by omega)]
  omega
/-- The law's end. -/
def TrueQ (fn : Func) (e : AExit) (y : FS) : Prop := (e = .normal ∨ e = .ret) ∧ ∃ v, fresults Tryd.prog fn.results.toList y = some v ∧ v = .bool true

theorem gol_pow (k m : Nat) (hm : m ≤ 18) {Q : AExit → FS → Prop} (h : AHeap) : ∀ (t i : Nat) (p : Int) (f : Nat → Value), i + t = m → Knows f [(0, I k), (1, I m), (5, I p), (6, I i)] →
    (∀ f', Knows f' [(0, I k), (1, I m), (5, I (powM k t p)), (7, I 0), (8, I (1 : Nat))] → Fin Tryd.prog AX none Tryd.f6.ntmps (lpN Tryd.f6 1) .normal ⟨f', h⟩ Q) →
    Fin Tryd.prog AX none Tryd.f6.ntmps (lpN Tryd.f6 0) .normal ⟨f, h⟩ Q := by
  intro t
  induction t with
  | zero =>
    intro i p f hi hf K
    refine Fin_known _ hf ?_
    refine Fin_unrl ?_
    refine Run 1000 ?_
    refine Fin_c ((i : Int) < m) (by kernel_rfl) (fun h1 => by omega) (fun h1 => ?_)
    refine Run 1000 ?_
    refine Fin_goto (lpN Tryd.f6 1) h [(0, I k), (1, I m), (5, I p), (7, I 0), (8, I (1 : Nat))] (by kernel_rfl) (by kernel_rfl) (by kernel_rfl) (fun f' hf' => K f' hf')
  | succ t ih =>
    intro i p f hi hf K
    refine Fin_known _ hf ?_
    refine Fin_unrl ?_
    refine Run 1000 ?_
    refine Fin_c ((i : Int) < m) (by kernel_rfl) (fun h1 => ?_) (fun h1 => by omega)
    refine Run 1000 ?_
    refine Fin_goto (lpN Tryd.f6 0) h [(0, I k), (1, I m), (5, I (IntKind.wrap .i64 (p * k))), (6, I (IntKind.wrap .i64 ((i : Int) + 1)))] (by kernel_rfl) (by kernel_rfl) (by kernel_rfl) (fun f' hf' => ?_)
    rw [wrap_next (n := m) (by omega) (by omega)] at hf'
    exact ih (i + 1) _ f' (by omega) hf' K

theorem gol_tail (k m : Nat) (p s : Int) (hok : golM k m m 1 0 = some s) (hp : p = powM k m 1) (hg : golOK k m = true) (f : Nat → Value) (h : AHeap) (hf : Knows f [(0, I k), (1, I m), (5, I p), (7, I s), (8, I (m + 1 : Nat))]) :
    Fin Tryd.prog AX none Tryd.f6.ntmps (lpN Tryd.f6 1) .normal ⟨f, h⟩ (TrueQ Tryd.f6) := by
  simp only [golOK, hok, Bool.and_eq_true, beq_iff_eq, Option.some.injEq] at hg
  obtain ⟨g1, g2⟩ := hg
  refine Fin_known _ hf ?_
  refine Fin_unrl ?_
  refine Run 1000 ?_
  refine Fin_c (((m + 1 : Nat) : Int) ≤ m) (by kernel_rfl) (fun h1 => by omega) (fun h1 => ?_)
  refine Run 1000 ?_
  refine Fin_cB (!(s == p)) (by kernel_rfl) ?_
  rw [show (!(s == p)) = false by rw [hp, g1]; simp]
  refine Run 1000 ?_
  refine Fin_call 17 [I k, I m] (by kernel_rfl) (by kernel_rfl) (range_spec (by kernel_rfl) k m h) (fun v9 hh9 hv9 => ?_)
  obtain ⟨rfl, rfl⟩ := hv9
  cases hr : inRange k m with
  | false =>
    refine Run 1000 ?_
    refine Fin_cB true (by kernel_rfl) ?_
    refine Run 1000 ?_
    refine Fin_call 22 [] (by kernel_rfl) (by kernel_rfl) (awake_ca _) (fun v11 hh11 hv11 => ?_)
    obtain ⟨rfl, rfl⟩ := hv11
    refine Run 1000 ?_
    exact Fin_r (by kernel_rfl) ⟨Or.inr rfl, .bool true, by kernel_rfl, rfl⟩
  | true =>
    simp only [hr, Bool.not_true, Bool.false_or, Bool.and_eq_true, beq_iff_eq] at g2
    obtain ⟨g3, g4⟩ := g2
    refine Run 1000 ?_
    refine Fin_cB false (by kernel_rfl) ?_
    refine Run 1000 ?_
    have hR := Rings_spec (X := AX) (by kernel_rfl) (by kernel_rfl) ringX_AX k m hh9
    simp only [hr, if_true] at hR
    refine Fin_call 15 [I k, I m] (by kernel_rfl) (by kernel_rfl) hR (fun v12 hh12 hv12 => ?_)
    obtain ⟨v1, rfl, A⟩ := hv12
    obtain ⟨a, kk, rfl, _⟩ := A.as_strs
    refine Run 1000 ?_
    refine Fin_call 16 [I k, I m] (by kernel_rfl) (by kernel_rfl) (cr_spec (by kernel_rfl) k m hh12) (fun v13 hh13 hv13 => ?_)
    obtain ⟨rfl, _⟩ := hv13
    rw [g4, ← g3]
    refine Run 1000 ?_
    refine Fin_gB true (by kernel_rfl) (by kernel_rfl) ?_
    refine Run 1000 ?_
    refine Fin_gB true (by kernel_rfl) (by kernel_rfl) ?_
    refine Run 1000 ?_
    have hlen : (ringsF (k : Int).toNat (m : Int).toNat).length = (ringsL k m).length := by simp [ringsF]
    refine Fin_gB (((ringsF (k : Int).toNat (m : Int).toNat).length : Int) == (ringsL k m).length) (by kernel_rfl) (by kernel_rfl) ?_
    rw [hlen, show (((ringsL k m).length : Int) == (ringsL k m).length) = true by simp]
    refine Run 1000 ?_
    refine Fin_call 22 [] (by kernel_rfl) (by kernel_rfl) (awake_ca _) (fun v11 hh11 hv11 => ?_)
    obtain ⟨rfl, rfl⟩ := hv11
    refine Run 1000 ?_
    exact Fin_r (by kernel_rfl) ⟨Or.inr rfl, .bool true, by kernel_rfl, rfl⟩

theorem gol_sum (k m : Nat) (hm : m ≤ 18) (p : Int) (hp : p = powM k m 1) (hg : golOK k m = true) : ∀ (t d : Nat) (s : Int) (f : Nat → Value) (h : AHeap), d + t = m + 1 → 1 ≤ d →
    golM k m m 1 0 = golM k m t d s → Knows f [(0, I k), (1, I m), (5, I p), (7, I s), (8, I d)] →
    Fin Tryd.prog AX none Tryd.f6.ntmps (lpN Tryd.f6 1) .normal ⟨f, h⟩ (TrueQ Tryd.f6) := by
  intro t
  induction t with
  | zero =>
    intro d s f h hd h1 he hf
    obtain rfl : d = m + 1 := by omega
    exact gol_tail k m p s (by rw [he]; rfl) hp hg f h hf
  | succ t ih =>
    intro d s f h hd h1 he hf
    have hw : IntKind.wrap .i64 ((d : Int) + 1) = ((d + 1 : Nat) : Int) := wrap_next (n := m + 1) (by omega) (by omega)
    refine Fin_known _ hf ?_
    refine Fin_unrl ?_
    refine Run 1000 ?_
    refine Fin_c ((d : Int) ≤ m) (by kernel_rfl) (fun h1 => ?_) (fun h1 => by omega)
    refine Run 1000 ?_
    refine Bin .rem 3 (I m) (I d) (I (Int.tmod m d)) (by kernel_rfl) (by kernel_rfl) (by simp [abin, aint]; omega) ?_
    refine Run 1000 ?_
    refine Fin_cB (Int.tmod (m : Int) d == 0) (by kernel_rfl) ?_
    by_cases hr : Int.tmod (m : Int) d = 0
    · rw [show (Int.tmod (m : Int) d == 0) = true by simp [hr]]
      refine Run 1000 ?_
      refine Fin_call 16 [I k, I d] (by kernel_rfl) (by kernel_rfl) (cr_spec (by kernel_rfl) k d h) (fun v4 hh4 hv4 => ?_)
      obtain ⟨rfl, _⟩ := hv4
      simp only [golM, hr, if_true] at he
      by_cases hz : (countRings k d).2 = 0
      · rw [if_pos hz] at he
        rw [hz]
        refine Run 1000 ?_
        refine Fin_cB false (by kernel_rfl) ?_
        refine Run 1000 ?_
        refine Fin_goto (lpN Tryd.f6 1) hh4 [(0, I k), (1, I m), (5, I p), (7, I (IntKind.wrap .i64 (s + IntKind.wrap .i64 ((countRings k d).1 * d)))), (8, I (IntKind.wrap .i64 ((d : Int) + 1)))] (by kernel_rfl) (by kernel_rfl) (by kernel_rfl) (fun f' hf' => ?_)
        rw [hw] at hf'
        exact ih (d + 1) _ f' hh4 (by omega) (by omega) he hf'
      · rw [if_neg hz] at he
        simp [golOK, he] at hg
    · rw [show (Int.tmod (m : Int) d == 0) = false by simp [hr]]
      refine Run 1000 ?_
      simp only [golM, hr, if_false] at he
      refine Fin_goto (lpN Tryd.f6 1) h [(0, I k), (1, I m), (5, I p), (7, I s), (8, I (IntKind.wrap .i64 ((d : Int) + 1)))] (by kernel_rfl) (by kernel_rfl) (by kernel_rfl) (fun f' hf' => ?_)
      rw [hw] at hf'
      exact ih (d + 1) s f' h (by omega) (by omega) he hf'

theorem gol_true (k m : Int) : Ca Tryd.prog AX (.fn 6) [I k, I m] H0 (fun v _ => v = .bool true) := by
  refine Ca_fn (fn := Tryd.f6) (c := Tryd.f6.body.getD .skip) (by kernel_rfl) (by kernel_rfl) (by kernel_rfl) (by kernel_rfl) ?_
  refine Run 1000 ?_
  obtain ⟨a, a1, a9, ha⟩ := norm_in 9 (by omega) (by omega) k
  obtain ⟨b, b1, b18, hb⟩ := norm_in 18 (by omega) (by omega) m
  refine Fin_goto (lpN Tryd.f6 0) H0 [(0, I (norm 9 k)), (1, I (norm 18 m)), (5, I 1), (6, I (0 : Nat))] (by kernel_rfl) (by kernel_rfl) (by kernel_rfl) (fun f' hf' => ?_)
  rw [show norm 9 k = a from ha, show norm 18 m = b from hb] at hf'
  refine gol_pow a b b18 H0 b 0 1 f' (by omega) hf' (fun f2 hf2 => ?_)
  exact gol_sum a b b18 _ rfl (gol_ok a1 a9 b1 b18) b 1 0 f2 H0 (by omega) (Nat.le_refl 1) rfl hf2
end Go.Proofs.YtpbmpdocgplhpaaDoor
