/-
  The reference's 'CountRings' computes what a plain function computes.
-/
import Derived.Test.YtpbmpdocgplhpaaDoorCr
set_option linter.unusedSimpArgs false
set_option linter.unusedVariables false
set_option maxRecDepth 100000
namespace Go.Proofs.YtpbmpdocgplhpaaDoor
open Go Go.AM

def rPow (k : Int) : Nat → Int → Option Int
  | 0, p => some p
  | t + 1, p => if p > IntKind.wrap .i64 (Int.tdiv 1000000000000000000 k) then none else rPow k t (IntKind.wrap .i64 (p * k))
def rSub (c : Nat → Int) (n : Nat) : Nat → Nat → Int → Int
  | 0, _, p => p
  | t + 1, d, p => rSub c n t (d + 1) (if Int.tmod n d = 0 then IntKind.wrap .i64 (p - IntKind.wrap .i64 (c d * d)) else p)
/-- What the reference's CountRings answers; u: an upper bound of n. -/
def rCount (k : Int) : Nat → Int → Int × Bool
  | 0, _ => (0, false)
  | u + 1, n => if k < 1 ∨ 9 < k ∨ n < 1 ∨ 60 < n then (0, false)
    else match rPow k n.toNat 1 with
      | none => (0, false)
      | some p => (IntKind.wrap .i64 (Int.tdiv (rSub (fun d => (rCount k u d).1) n.toNat (n.toNat - 1) 1 p) n), true)

def rSlots (k n p : Int) : List (Nat × Value) := [(0, I k), (1, I n), (6, I p)]

theorem r_pow {X : Ext} {Q : AExit → FS → Prop} (k : Int) (hk : 1 ≤ k) (n : Nat) (hn : n ≤ 60) (h : AHeap) :
    ∀ (t i : Nat) (p : Int) (f : Nat → Value), i + t = n → Knows f (rSlots k n p ++ [(7, I i)]) →
    (rPow k t p = none → ∀ y, fresults Tryd.prog Tryd.f20.results.toList y = some (.tuple #[I 0, .bool false]) → y.h = h → Q .ret y) →
    (∀ q f', rPow k t p = some q → Knows f' (rSlots k n q ++ [(8, I 1)]) → Fin Tryd.prog X none Tryd.f20.ntmps (lpN Tryd.f20 1) .normal ⟨f', h⟩ Q) →
    Fin Tryd.prog X none Tryd.f20.ntmps (lpN Tryd.f20 0) .normal ⟨f, h⟩ Q := by
  intro t
  induction t with
  | zero =>
    intro i p f hi hf K1 K2
    refine Fin_known _ hf ?_
    refine Fin_unrl ?_
    refine Run 1000 ?_
    refine Fin_c ((i : Int) < n) (by kernel_rfl) (fun h1 => by omega) (fun h2 => ?_)
    refine Run 1000 ?_
    exact Fin_goto (lpN Tryd.f20 1) h (rSlots k n p ++ [(8, I 1)]) (by kernel_rfl) (by kernel_rfl) (by kernel_rfl) (fun f' hf' => K2 p f' rfl hf')
  | succ t ih =>
    intro i p f hi hf K1 K2
    have hw : IntKind.wrap .i64 ((i : Int) + 1) = ((i + 1 : Nat) : Int) := by rw [wrap_small (by omega) (by omega)]; simp
    refine Fin_known _ hf ?_
    refine Fin_unrl ?_
    refine Run 1000 ?_
    refine Fin_c ((i : Int) < n) (by kernel_rfl) (fun h1 => ?_) (fun h2 => by omega)
    refine Run 1000 ?_
    refine Bin .quo 2 (I 1000000000000000000) (I k) (I (IntKind.wrap .i64 (Int.tdiv 1000000000000000000 k))) (by kernel_rfl) (by kernel_rfl) (by simp [abin, aint]; omega) ?_
    refine Run 1000 ?_
    refine Fin_c (p > IntKind.wrap .i64 (Int.tdiv 1000000000000000000 k)) (by kernel_rfl) (fun h3 => ?_) (fun h3 => ?_)
    · refine Run 1000 ?_
      exact Fin_r (by kernel_rfl) (K1 (by rw [rPow, if_pos h3]) _ (by kernel_rfl) rfl)
    · refine Run 1000 ?_
      refine Fin_goto (lpN Tryd.f20 0) h (rSlots k n (IntKind.wrap .i64 (p * k)) ++ [(7, I (IntKind.wrap .i64 ((i : Int) + 1)))]) (by kernel_rfl) (by kernel_rfl) (by kernel_rfl) (fun f' hf' => ?_)
      rw [hw] at hf'
      refine ih (i + 1) _ f' (by omega) hf' (fun hh => K1 (by rw [rPow, if_neg h3]; exact hh)) (fun q f2 hq => K2 q f2 (by rw [rPow, if_neg h3]; exact hq))

theorem r_sub {X : Ext} {Q : AExit → FS → Prop} (c : Nat → Int) (k : Int) (n : Nat) (hn : n ≤ 60) (hn1 : 1 ≤ n)
    (hc : ∀ d, 1 ≤ d → d < n → ∀ h, Ca Tryd.prog X (.fn 20) [I k, I d] h (fun v h' => (∃ b, v = .tuple #[I (c d), .bool b]) ∧ Grew h h')) :
    ∀ (t d : Nat) (p : Int) (f : Nat → Value) (h : AHeap), d + t = n → 1 ≤ d → Knows f (rSlots k n p ++ [(8, I d)]) →
    (∀ y, fresults Tryd.prog Tryd.f20.results.toList y = some (.tuple #[I (IntKind.wrap .i64 (Int.tdiv (rSub c n t d p) n)), .bool true]) → Grew h y.h → Q .ret y) →
    Fin Tryd.prog X none Tryd.f20.ntmps (lpN Tryd.f20 1) .normal ⟨f, h⟩ Q := by
  intro t
  induction t with
  | zero =>
    intro d p f h hd h1 hf K
    refine Fin_known _ hf ?_
    refine Fin_unrl ?_
    refine Run 1000 ?_
    refine Fin_c ((d : Int) < n) (by kernel_rfl) (fun h1 => by omega) (fun h2 => ?_)
    refine Run 1000 ?_
    refine Bin .quo 2 (I p) (I n) (I (IntKind.wrap .i64 (Int.tdiv p n))) (by kernel_rfl) (by kernel_rfl) (by simp [abin, aint]; omega) ?_
    refine Run 1000 ?_
    exact Fin_r (by kernel_rfl) (K _ (by kernel_rfl) ⟨[], by simp⟩)
  | succ t ih =>
    intro d p f h hd h1 hf K
    have hw : IntKind.wrap .i64 ((d : Int) + 1) = ((d + 1 : Nat) : Int) := by rw [wrap_small (by omega) (by omega)]; simp
    refine Fin_known _ hf ?_
    refine Fin_unrl ?_
    refine Run 1000 ?_
    refine Fin_c ((d : Int) < n) (by kernel_rfl) (fun hlt => ?_) (fun h2 => by omega)
    refine Run 1000 ?_
    refine Bin .rem 3 (I n) (I d) (I (Int.tmod n d)) (by kernel_rfl) (by kernel_rfl) (by simp [abin, aint]; omega) ?_
    refine Run 1000 ?_
    refine Fin_cB (Int.tmod n d == 0) (by kernel_rfl) ?_
    by_cases hr : Int.tmod (n : Int) d = 0
    · have hr' : (Int.tmod (n : Int) d == 0) = true := by simp [hr]
      rw [hr']
      refine Run 1000 ?_
      refine Fin_call 20 [I k, I d] (by kernel_rfl) (by kernel_rfl) (hc d h1 (by omega) h) (fun v hh hv => ?_)
      obtain ⟨⟨b, rfl⟩, g, rfl⟩ := hv
      refine Run 1000 ?_
      refine Fin_goto (lpN Tryd.f20 1) (h ++ g) (rSlots k n (IntKind.wrap .i64 (p - IntKind.wrap .i64 (c d * d))) ++ [(8, I (IntKind.wrap .i64 ((d : Int) + 1)))]) (by kernel_rfl) (by kernel_rfl) (by kernel_rfl) (fun f' hf' => ?_)
      rw [hw] at hf'
      refine ih (d + 1) _ f' (h ++ g) (by omega) (by omega) hf' (fun y hy ⟨g2, hg2⟩ => K y ?_ ⟨g ++ g2, by rw [hg2, List.append_assoc]⟩)
      rw [rSub, if_pos hr]; exact hy
    · have hr' : (Int.tmod (n : Int) d == 0) = false := by simp [hr]
      rw [hr']
      refine Run 1000 ?_
      refine Fin_goto (lpN Tryd.f20 1) h (rSlots k n p ++ [(8, I (IntKind.wrap .i64 ((d : Int) + 1)))]) (by kernel_rfl) (by kernel_rfl) (by kernel_rfl) (fun f' hf' => ?_)
      rw [hw] at hf'
      refine ih (d + 1) _ f' h (by omega) (by omega) hf' (fun y hy hg => K y ?_ hg)
      rw [rSub, if_neg hr]; exact hy

theorem rcr_spec {X : Ext} (hX : X 20 = none) (k : Int) : ∀ (u : Nat) (n : Int) (h : AHeap), n < u → Ca Tryd.prog X (.fn 20) [I k, I n] h (fun v h' => v = .tuple #[I (rCount k u n).1, .bool (rCount k u n).2] ∧ Grew h h') := by
  intro u
  induction u with
  | zero =>
    intro n h hn
    refine Ca_fn (fn := Tryd.f20) (c := Tryd.f20.body.getD .skip) hX (by kernel_rfl) (by kernel_rfl) (by kernel_rfl) ?_
    have refused : Value.tuple #[I 0, .bool false] = .tuple #[I (rCount k 0 n).1, .bool (rCount k 0 n).2] := by simp [rCount]
    have same : Grew h h := ⟨[], by simp⟩
    refine Run 1000 ?_
    refine Fin_g (k < 1) (by kernel_rfl) (by kernel_rfl) (fun h1 => ?_) (fun h1 => ?_)
    · refine Run 1000 ?_
      refine Fin_gB true (by kernel_rfl) (by kernel_rfl) ?_
      refine Run 1000 ?_
      refine Fin_gB true (by kernel_rfl) (by kernel_rfl) ?_
      refine Run 1000 ?_
      refine Fin_cB true (by kernel_rfl) ?_
      refine Run 1000 ?_
      exact Fin_r (by kernel_rfl) ⟨Or.inr rfl, .tuple #[I 0, .bool false], by kernel_rfl, refused, same⟩
    · refine Run 1000 ?_
      refine Fin_g (k > 9) (by kernel_rfl) (by kernel_rfl) (fun h2 => ?_) (fun h2 => ?_)
      · refine Run 1000 ?_
        refine Fin_gB true (by kernel_rfl) (by kernel_rfl) ?_
        refine Run 1000 ?_
        refine Fin_cB true (by kernel_rfl) ?_
        refine Run 1000 ?_
        exact Fin_r (by kernel_rfl) ⟨Or.inr rfl, .tuple #[I 0, .bool false], by kernel_rfl, refused, same⟩
      · refine Run 1000 ?_
        refine Fin_g (n < 1) (by kernel_rfl) (by kernel_rfl) (fun h3 => ?_) (fun h3 => by omega)
        refine Run 1000 ?_
        refine Fin_cB true (by kernel_rfl) ?_
        refine Run 1000 ?_
        exact Fin_r (by kernel_rfl) ⟨Or.inr rfl, .tuple #[I 0, .bool false], by kernel_rfl, refused, same⟩
  | succ u ih =>
    intro n h hn
    refine Ca_fn (fn := Tryd.f20) (c := Tryd.f20.body.getD .skip) hX (by kernel_rfl) (by kernel_rfl) (by kernel_rfl) ?_
    have refused : (k < 1 ∨ 9 < k ∨ n < 1 ∨ 60 < n) → Value.tuple #[I 0, .bool false] = .tuple #[I (rCount k (u + 1) n).1, .bool (rCount k (u + 1) n).2] := by
      intro hh; simp [rCount, hh]
    have same : Grew h h := ⟨[], by simp⟩
    refine Run 1000 ?_
    refine Fin_g (k < 1) (by kernel_rfl) (by kernel_rfl) (fun h1 => ?_) (fun h1 => ?_)
    · refine Run 1000 ?_
      refine Fin_gB true (by kernel_rfl) (by kernel_rfl) ?_
      refine Run 1000 ?_
      refine Fin_gB true (by kernel_rfl) (by kernel_rfl) ?_
      refine Run 1000 ?_
      refine Fin_cB true (by kernel_rfl) ?_
      refine Run 1000 ?_
      exact Fin_r (by kernel_rfl) ⟨Or.inr rfl, .tuple #[I 0, .bool false], by kernel_rfl, refused (by omega), same⟩
    · refine Run 1000 ?_
      refine Fin_g (k > 9) (by kernel_rfl) (by kernel_rfl) (fun h2 => ?_) (fun h2 => ?_)
      · refine Run 1000 ?_
        refine Fin_gB true (by kernel_rfl) (by kernel_rfl) ?_
        refine Run 1000 ?_
        refine Fin_cB true (by kernel_rfl) ?_
        refine Run 1000 ?_
        exact Fin_r (by kernel_rfl) ⟨Or.inr rfl, .tuple #[I 0, .bool false], by kernel_rfl, refused (by omega), same⟩
      · refine Run 1000 ?_
        refine Fin_g (n < 1) (by kernel_rfl) (by kernel_rfl) (fun h3 => ?_) (fun h3 => ?_)
        · refine Run 1000 ?_
          refine Fin_cB true (by kernel_rfl) ?_
          refine Run 1000 ?_
          exact Fin_r (by kernel_rfl) ⟨Or.inr rfl, .tuple #[I 0, .bool false], by kernel_rfl, refused (by omega), same⟩
        · refine Run 1000 ?_
          refine Fin_c (n > 60) (by kernel_rfl) (fun h4 => ?_) (fun h4 => ?_)
          · refine Run 1000 ?_
            exact Fin_r (by kernel_rfl) ⟨Or.inr rfl, .tuple #[I 0, .bool false], by kernel_rfl, refused (by omega), same⟩
          · refine Run 1000 ?_
            obtain ⟨m, rfl⟩ : ∃ m : Nat, n = m := ⟨n.toNat, by omega⟩
            have hn : ¬(k < 1 ∨ 9 < k ∨ (m : Int) < 1 ∨ 60 < (m : Int)) := by omega
            refine Fin_goto (lpN Tryd.f20 0) h (rSlots k m 1 ++ [(7, I (0 : Nat))]) (by kernel_rfl) (by kernel_rfl) (by kernel_rfl) (fun f' hf' => ?_)
            refine r_pow k (by omega) m (by omega) h m 0 1 f' (by omega) hf' (fun hp y hy hh => ⟨Or.inr rfl, _, hy, ?_, by rw [hh]; exact same⟩) (fun q f2 hq hf2 => ?_)
            · simp only [rCount, if_neg hn, Int.toNat_natCast, hp]
            · refine r_sub (fun d => (rCount k u d).1) k m (by omega) (by omega) (fun d hd1 hd2 h => ?_) (m - 1) 1 q f2 h (by omega) (Nat.le_refl 1) hf2 (fun y hy hg => ⟨Or.inr rfl, _, hy, ?_, hg⟩)
              · exact (ih d h (by omega)).imp fun v h' ⟨e, g⟩ => ⟨⟨_, e⟩, g⟩
              · simp only [rCount, if_neg hn, Int.toNat_natCast, hq]
end Go.Proofs.YtpbmpdocgplhpaaDoor
