/-
  flag.IsClash, by the library's contract of strings.Contains.
-/
import Derived.Test.YtpbmpdocgplhpaaDoorIsCl
set_option linter.unusedSimpArgs false
set_option linter.unusedVariables false
set_option maxRecDepth 100000
namespace Go.Proofs.YtpbmpdocgplhpaaDoor
open Go Go.AM

def contC : List Value → AHeap → Option (Value × AHeap)
  | [.string s, .string sub], h => if s.size < 4294967281 then some (.bool (Lib.contains s.data.toList sub.data.toList), h) else none
  | _, _ => none
def min2 (x y : Int) : Int := if y < x then y else x
def max2 (x y : Int) : Int := if x < y then y else x
theorem min2_le (x y : Int) : min2 x y ≤ x ∧ min2 x y ≤ y ∧ (min2 x y = x ∨ min2 x y = y) := by unfold min2; split <;> omega
theorem max2_le (x y : Int) : x ≤ max2 x y ∧ y ≤ max2 x y ∧ (max2 x y = x ∨ max2 x y = y) := by unfold max2; split <;> omega

theorem IsClash_no {X : Ext} (hX : X 46 = none) (hX49 : X 49 = none) (o : OverX X) (k n : Nat) (hin : inRange k n = true) (h : AHeap) (a : Option Addr) (kk : Nat) (L : List ByteArray) (hL : L.length < 1000000) (hst : Strs h a L) (hc : codeF k n L = true) (x y z : Int) (hn : in3 L x y z = false) :
    Ca Tryd.prog X (.fn 46) [I k, I n, .slice a L.length kk, .agg #[I x, I y, I z]] h (fun v h' => v = .tuple #[.bool (isClF L x y z), I 0] ∧ Grew h h') := by
  have hno : isClF L x y z = false := by unfold isClF; rw [hn, Bool.false_and]
  have hn2 : ¬(0 ≤ x ∧ x < L.length ∧ 0 ≤ y ∧ y < L.length ∧ 0 ≤ z ∧ z < L.length) := of_decide_eq_false hn
  rw [hno]
  have hopen : openF k n L = 0 := by
    unfold openF
    rw [if_pos hin]
    simp only [Int.toNat_natCast, hc, cod]
    rfl
  have hw : ∀ w ∈ L, w.size = n := fun w hw => (codeGo_size hc w hw).1
  obtain ⟨i1, i2, i3, i4⟩ := inRange_iff.1 hin
  refine Ca_fn (fn := Tryd.f46) (c := Tryd.f46.body.getD .skip) hX (by kernel_rfl) (by kernel_rfl) (by kernel_rfl) ?_
  refine Run 1000 ?_
  refine Box (.agg #[I x, I y, I z]) (by kernel_rfl) (by kernel_rfl) rfl ?_
  have hrow : (h ++ [AObj.row (Value.agg #[I x, I y, I z]).cells.toList true])[h.length]? = some (.row [I x, I y, I z] true) := by rw [List.getElem?_append_right (Nat.le_refl _)]; simp [Value.cells]
  have G0 : Grew h (h ++ [AObj.row (Value.agg #[I x, I y, I z]).cells.toList true]) := ⟨_, rfl⟩
  obtain ⟨b, eb⟩ : ∃ b, b = h.length := ⟨_, rfl⟩
  obtain ⟨h1, eh⟩ : ∃ h1, h1 = h ++ [AObj.row (Value.agg #[I x, I y, I z]).cells.toList true] := ⟨_, rfl⟩
  rw [← eb, ← eh] at hrow ⊢
  rw [← eh] at G0
  refine Run 1000 ?_
  refine Fin_call 49 [I k, I n, .slice a L.length kk] (by kernel_rfl) (by kernel_rfl) (open_spec hX49 o k n h1 a kk L (by omega) (hst.grow G0)) (fun v2 hh2 hv2 => ?_)
  obtain ⟨rfl, G2⟩ := hv2
  rw [hopen]
  have G := G0.trans G2
  have hb := G2.at hrow
  have l3 := fun i hi => ld56 hb i hi
  refine RunA 1000 1 ?_
  refine IdxP 56 b 0 3 .i64 (0 : Nat) (by kernel_rfl) (by kernel_rfl) u56 rfl ti3 rfl (by omega) (by omega) ?_
  refine Run 1000 ?_
  refine Load 3 (.pointer (some ⟨b, 0 + ((0 : Nat) : Int).toNat * 1, none⟩)) (I x) (by kernel_rfl) (by kernel_rfl) (l3 0 (by omega)) ?_
  refine Run 1000 ?_
  refine IdxP 56 b 0 3 .i64 (1 : Nat) (by kernel_rfl) (by kernel_rfl) u56 rfl ti3 rfl (by omega) (by omega) ?_
  refine Run 1000 ?_
  refine Load 3 (.pointer (some ⟨b, 0 + ((1 : Nat) : Int).toNat * 1, none⟩)) (I y) (by kernel_rfl) (by kernel_rfl) (l3 1 (by omega)) ?_
  refine Run 1000 ?_
  refine IdxP 56 b 0 3 .i64 (2 : Nat) (by kernel_rfl) (by kernel_rfl) u56 rfl ti3 rfl (by omega) (by omega) ?_
  refine Run 1000 ?_
  refine Load 3 (.pointer (some ⟨b, 0 + ((2 : Nat) : Int).toNat * 1, none⟩)) (I z) (by kernel_rfl) (by kernel_rfl) (l3 2 (by omega)) ?_
  refine Run 1000 ?_
  refine Fin_g (min2 (min2 x y) z < 0) (by kernel_rfl) (by kernel_rfl) (fun h5 => ?_) (fun h5 => ?_)
  · refine RunA 1000 1 ?_
    refine Fin_r (by kernel_rfl) ⟨Or.inr rfl, .tuple #[.bool false, I 0], by kernel_rfl, rfl, G⟩
  · refine Run 1000 ?_
    refine IdxP 56 b 0 3 .i64 (0 : Nat) (by kernel_rfl) (by kernel_rfl) u56 rfl ti3 rfl (by omega) (by omega) ?_
    refine Run 1000 ?_
    refine Load 3 (.pointer (some ⟨b, 0 + ((0 : Nat) : Int).toNat * 1, none⟩)) (I x) (by kernel_rfl) (by kernel_rfl) (l3 0 (by omega)) ?_
    refine Run 1000 ?_
    refine IdxP 56 b 0 3 .i64 (1 : Nat) (by kernel_rfl) (by kernel_rfl) u56 rfl ti3 rfl (by omega) (by omega) ?_
    refine Run 1000 ?_
    refine Load 3 (.pointer (some ⟨b, 0 + ((1 : Nat) : Int).toNat * 1, none⟩)) (I y) (by kernel_rfl) (by kernel_rfl) (l3 1 (by omega)) ?_
    refine Run 1000 ?_
    refine IdxP 56 b 0 3 .i64 (2 : Nat) (by kernel_rfl) (by kernel_rfl) u56 rfl ti3 rfl (by omega) (by omega) ?_
    refine Run 1000 ?_
    refine Load 3 (.pointer (some ⟨b, 0 + ((2 : Nat) : Int).toNat * 1, none⟩)) (I z) (by kernel_rfl) (by kernel_rfl) (l3 2 (by omega)) ?_
    refine Run 1000 ?_
    refine Fin_c (max2 (max2 x y) z ≥ L.length) (by kernel_rfl) (fun h8 => ?_) (fun h8 => ?_)
    · refine Run 1000 ?_
      refine Fin_r (by kernel_rfl) ⟨Or.inr rfl, .tuple #[.bool false, I 0], by kernel_rfl, rfl, G⟩
    · exfalso
      have m1 := min2_le x y; have m2 := min2_le (min2 x y) z
      have m3 := max2_le x y; have m4 := max2_le (max2 x y) z
      omega
theorem IsClash_yes {X : Ext} (hX : X 46 = none) (hX49 : X 49 = none) (hX70 : X 70 = some contC) (o : OverX X) (k n : Nat) (hin : inRange k n = true) (h : AHeap) (b1 o1 : Nat) (kk : Nat) (L : List ByteArray) (hL : L.length < 1000000) (hst : Strs h (some ⟨b1, o1, some 1⟩) L) (hc : codeF k n L = true) (x y z : Int) (hn : in3 L x y z = true) :
    Ca Tryd.prog X (.fn 46) [I k, I n, .slice (some ⟨b1, o1, some 1⟩) L.length kk, .agg #[I x, I y, I z]] h (fun v h' => v = .tuple #[.bool (isClF L x y z), I 0] ∧ Grew h h') := by
  have hopen : openF k n L = 0 := by
    unfold openF
    rw [if_pos hin]
    simp only [Int.toNat_natCast, hc, cod]
    rfl
  have hw : ∀ w ∈ L, w.size = n := fun w hw => (codeGo_size hc w hw).1
  obtain ⟨i1, i2, i3, i4⟩ := inRange_iff.1 hin
  have hn2 : 0 ≤ x ∧ x < L.length ∧ 0 ≤ y ∧ y < L.length ∧ 0 ≤ z ∧ z < L.length := of_decide_eq_true hn
  have hx : 0 ≤ x ∧ x < L.length := by omega
  have hy : 0 ≤ y ∧ y < L.length := by omega
  have hz : 0 ≤ z ∧ z < L.length := by omega
  have m1 := min2_le x y; have m2 := min2_le (min2 x y) z
  have m3 := max2_le x y; have m4 := max2_le (max2 x y) z
  have ld : ∀ hh, Grew h hh → ∀ w : Int, 0 ≤ w → w < L.length → aload Tryd.prog hh 9 (.pointer (some ⟨b1, o1 + w.toNat * 1, none⟩)) = some (.string (L.getD w.toNat .empty)) := by
    intro hh g w h1 h2
    rw [getD_at L w.toNat (by omega)]
    exact (hst.grow g).load9 (by omega) rfl (by omega)
  have hu : ∀ w : Int, 0 ≤ w → w < L.length → (L.getD w.toNat .empty).size = n := by
    intro w h1 h2
    rw [getD_at L w.toNat (by omega)]
    exact hw _ (List.getElem_mem _)
  obtain ⟨u, eu⟩ : ∃ u, u = L.getD x.toNat .empty := ⟨_, rfl⟩
  obtain ⟨v, ev⟩ : ∃ v, v = L.getD y.toNat .empty := ⟨_, rfl⟩
  obtain ⟨w, ew⟩ : ∃ w, w = L.getD z.toNat .empty := ⟨_, rfl⟩
  have su : u.size = n := by rw [eu]; exact hu x hx.1 hx.2
  have sv : v.size = n := by rw [ev]; exact hu y hy.1 hy.2
  have sw : w.size = n := by rw [ew]; exact hu z hz.1 hz.2
  have hin2 : isClF L x y z = clF u v w 1 := by
    unfold isClF in3; rw [decide_eq_true ⟨hx.1, hx.2, hy.1, hy.2, hz⟩, Bool.true_and, ← eu, ← ev, ← ew]
  have hboth : (u ++ v).size = u.size + v.size := ByteArray.size_append
  have hwr : IntKind.wrap .i64 (((u ++ v).size : Int) - 1) = (((u ++ v).size - 1 : Nat) : Int) := by rw [wrap_small (by omega) (by omega)]; omega
  have hcont := contains_cl u v w n (by omega) su sv sw
  rw [← hboth] at hcont
  rw [hin2]
  refine Ca_fn (fn := Tryd.f46) (c := Tryd.f46.body.getD .skip) hX (by kernel_rfl) (by kernel_rfl) (by kernel_rfl) ?_
  refine Run 1000 ?_
  refine Box (.agg #[I x, I y, I z]) (by kernel_rfl) (by kernel_rfl) rfl ?_
  have hrow : (h ++ [AObj.row (Value.agg #[I x, I y, I z]).cells.toList true])[h.length]? = some (.row [I x, I y, I z] true) := by rw [List.getElem?_append_right (Nat.le_refl _)]; simp [Value.cells]
  have G0 : Grew h (h ++ [AObj.row (Value.agg #[I x, I y, I z]).cells.toList true]) := ⟨_, rfl⟩
  obtain ⟨b, eb⟩ : ∃ b, b = h.length := ⟨_, rfl⟩
  obtain ⟨h1, eh⟩ : ∃ h1, h1 = h ++ [AObj.row (Value.agg #[I x, I y, I z]).cells.toList true] := ⟨_, rfl⟩
  rw [← eb, ← eh] at hrow ⊢
  rw [← eh] at G0
  refine Run 1000 ?_
  refine Fin_call 49 [I k, I n, .slice (some ⟨b1, o1, some 1⟩) L.length kk] (by kernel_rfl) (by kernel_rfl) (open_spec hX49 o k n h1 (some ⟨b1, o1, some 1⟩) kk L (by omega) (hst.grow G0)) (fun v2 hh2 hv2 => ?_)
  obtain ⟨rfl, G2⟩ := hv2
  rw [hopen]
  have G := G0.trans G2
  have hb := G2.at hrow
  have l3 := fun i hi => ld56 hb i hi
  have ldx := ld hh2 G x hx.1 hx.2
  have ldy := ld hh2 G y hy.1 hy.2
  have ldz := ld hh2 G z hz.1 hz.2
  rw [← eu] at ldx
  rw [← ev] at ldy
  rw [← ew] at ldz
  refine RunA 1000 1 ?_
  refine IdxP 56 b 0 3 .i64 (0 : Nat) (by kernel_rfl) (by kernel_rfl) u56 rfl ti3 rfl (by omega) (by omega) ?_
  refine Run 1000 ?_
  refine Load 3 (.pointer (some ⟨b, 0 + ((0 : Nat) : Int).toNat * 1, none⟩)) (I x) (by kernel_rfl) (by kernel_rfl) (l3 0 (by omega)) ?_
  refine Run 1000 ?_
  refine IdxP 56 b 0 3 .i64 (1 : Nat) (by kernel_rfl) (by kernel_rfl) u56 rfl ti3 rfl (by omega) (by omega) ?_
  refine Run 1000 ?_
  refine Load 3 (.pointer (some ⟨b, 0 + ((1 : Nat) : Int).toNat * 1, none⟩)) (I y) (by kernel_rfl) (by kernel_rfl) (l3 1 (by omega)) ?_
  refine Run 1000 ?_
  refine IdxP 56 b 0 3 .i64 (2 : Nat) (by kernel_rfl) (by kernel_rfl) u56 rfl ti3 rfl (by omega) (by omega) ?_
  refine Run 1000 ?_
  refine Load 3 (.pointer (some ⟨b, 0 + ((2 : Nat) : Int).toNat * 1, none⟩)) (I z) (by kernel_rfl) (by kernel_rfl) (l3 2 (by omega)) ?_
  refine Run 1000 ?_
  refine Fin_g (min2 (min2 x y) z < 0) (by kernel_rfl) (by kernel_rfl) (fun h5 => by omega) (fun h5 => ?_)
  refine Run 1000 ?_
  refine IdxP 56 b 0 3 .i64 (0 : Nat) (by kernel_rfl) (by kernel_rfl) u56 rfl ti3 rfl (by omega) (by omega) ?_
  refine Run 1000 ?_
  refine Load 3 (.pointer (some ⟨b, 0 + ((0 : Nat) : Int).toNat * 1, none⟩)) (I x) (by kernel_rfl) (by kernel_rfl) (l3 0 (by omega)) ?_
  refine Run 1000 ?_
  refine IdxP 56 b 0 3 .i64 (1 : Nat) (by kernel_rfl) (by kernel_rfl) u56 rfl ti3 rfl (by omega) (by omega) ?_
  refine Run 1000 ?_
  refine Load 3 (.pointer (some ⟨b, 0 + ((1 : Nat) : Int).toNat * 1, none⟩)) (I y) (by kernel_rfl) (by kernel_rfl) (l3 1 (by omega)) ?_
  refine Run 1000 ?_
  refine IdxP 56 b 0 3 .i64 (2 : Nat) (by kernel_rfl) (by kernel_rfl) u56 rfl ti3 rfl (by omega) (by omega) ?_
  refine Run 1000 ?_
  refine Load 3 (.pointer (some ⟨b, 0 + ((2 : Nat) : Int).toNat * 1, none⟩)) (I z) (by kernel_rfl) (by kernel_rfl) (l3 2 (by omega)) ?_
  refine Run 1000 ?_
  refine Fin_c (max2 (max2 x y) z ≥ L.length) (by kernel_rfl) (fun h8 => by omega) (fun h8 => ?_)
  refine Run 1000 ?_
  refine Draw (by kernel_rfl) ?_
  refine Run 1000 ?_
  refine IdxP 56 b 0 3 .i64 (0 : Nat) (by kernel_rfl) (by kernel_rfl) u56 rfl ti3 rfl (by omega) (by omega) ?_
  refine Run 1000 ?_
  refine Load 3 (.pointer (some ⟨b, 0 + ((0 : Nat) : Int).toNat * 1, none⟩)) (I x) (by kernel_rfl) (by kernel_rfl) (l3 0 (by omega)) ?_
  refine Run 1000 ?_
  refine IdxA 22 b1 o1 1 L.length kk .i64 x (by kernel_rfl) (by kernel_rfl) ti22 rfl ti9 rfl (by omega) (by omega) ?_
  refine Run 1000 ?_
  refine Load 9 (.pointer (some ⟨b1, o1 + x.toNat * 1, none⟩)) (.string u) (by kernel_rfl) (by kernel_rfl) ldx ?_
  refine Run 1000 ?_
  refine IdxP 56 b 0 3 .i64 (1 : Nat) (by kernel_rfl) (by kernel_rfl) u56 rfl ti3 rfl (by omega) (by omega) ?_
  refine Run 1000 ?_
  refine Load 3 (.pointer (some ⟨b, 0 + ((1 : Nat) : Int).toNat * 1, none⟩)) (I y) (by kernel_rfl) (by kernel_rfl) (l3 1 (by omega)) ?_
  refine Run 1000 ?_
  refine IdxA 22 b1 o1 1 L.length kk .i64 y (by kernel_rfl) (by kernel_rfl) ti22 rfl ti9 rfl (by omega) (by omega) ?_
  refine Run 1000 ?_
  refine Load 9 (.pointer (some ⟨b1, o1 + y.toNat * 1, none⟩)) (.string v) (by kernel_rfl) (by kernel_rfl) ldy ?_
  refine Run 1000 ?_
  refine Bin .add 9 (.string u) (.string v) (.string (u ++ v)) (by kernel_rfl) (by kernel_rfl) (add_str _ _ (by omega)) ?_
  refine Run 1000 ?_
  refine Draw (by kernel_rfl) ?_
  refine Run 1000 ?_
  refine Slic 9 (.string (u ++ v)) (.string ((u ++ v).extract 1 ((u ++ v).size - 1))) (some (I 1)) (some (I (IntKind.wrap .i64 (((u ++ v).size : Int) - 1)))) none (by kernel_rfl) (by kernel_rfl) (by rw [hwr]; exact slice_both _ 1 _ (by omega) (by omega)) ?_
  refine Run 1000 ?_
  refine IdxP 56 b 0 3 .i64 (2 : Nat) (by kernel_rfl) (by kernel_rfl) u56 rfl ti3 rfl (by omega) (by omega) ?_
  refine Run 1000 ?_
  refine Load 3 (.pointer (some ⟨b, 0 + ((2 : Nat) : Int).toNat * 1, none⟩)) (I z) (by kernel_rfl) (by kernel_rfl) (l3 2 (by omega)) ?_
  refine Run 1000 ?_
  refine IdxA 22 b1 o1 1 L.length kk .i64 z (by kernel_rfl) (by kernel_rfl) ti22 rfl ti9 rfl (by omega) (by omega) ?_
  refine Run 1000 ?_
  refine Load 9 (.pointer (some ⟨b1, o1 + z.toNat * 1, none⟩)) (.string w) (by kernel_rfl) (by kernel_rfl) ldz ?_
  refine Run 1000 ?_
  have hcall : Ca Tryd.prog X (.fn 70) [.string ((u ++ v).extract 1 ((u ++ v).size - 1)), .string w] hh2 (fun r h' => r = .bool (clF u v w 1) ∧ h' = hh2) := by
    refine Ca_ext (c := contC) hX70 (v := .bool (clF u v w 1)) (h' := hh2) ?_ ⟨rfl, rfl⟩
    simp only [contC]
    rw [if_pos (by simp; omega), hcont]
  refine Fin_call 70 [.string ((u ++ v).extract 1 ((u ++ v).size - 1)), .string w] (by kernel_rfl) (by kernel_rfl) hcall (fun v32 hh32 hv32 => ?_)
  obtain ⟨rfl, rfl⟩ := hv32
  refine Run 1000 ?_
  refine Fin_r (by kernel_rfl) ⟨Or.inr rfl, .tuple #[.bool (clF u v w 1), I 0], by kernel_rfl, rfl, G⟩
/-- What 'IsClash' tells of a code in order. -/
theorem IsClash_spec {X : Ext} (hX : X 46 = none) (hX49 : X 49 = none) (hX70 : X 70 = some contC) (o : OverX X) (k n : Nat) (hin : inRange k n = true) (h : AHeap) (a : Option Addr) (kk : Nat) (L : List ByteArray) (hL : L.length < 1000000) (hst : Strs h a L) (hc : codeF k n L = true) (x y z : Int) :
    Ca Tryd.prog X (.fn 46) [I k, I n, .slice a L.length kk, .agg #[I x, I y, I z]] h (fun v h' => v = .tuple #[.bool (isClF L x y z), I 0] ∧ Grew h h') := by
  cases hn : in3 L x y z with
  | false => exact IsClash_no hX hX49 o k n hin h a kk L hL hst hc x y z hn
  | true =>
    have hn2 : 0 ≤ x ∧ x < L.length ∧ 0 ≤ y ∧ y < L.length ∧ 0 ≤ z ∧ z < L.length := of_decide_eq_true hn
    obtain ⟨b1, o1, rfl, _⟩ := hst.at (i := x.toNat) (by omega)
    exact IsClash_yes hX hX49 hX70 o k n hin h b1 o1 kk L hL hst hc x y z hn
end Go.Proofs.YtpbmpdocgplhpaaDoor
