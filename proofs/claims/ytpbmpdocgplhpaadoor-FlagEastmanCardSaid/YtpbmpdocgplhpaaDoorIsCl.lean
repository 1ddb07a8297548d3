/-
  The reference's IsClash; flag.IsClash.
-/
import Derived.Test.YtpbmpdocgplhpaaDoorContn
import Derived.Test.YtpbmpdocgplhpaaDoorMH
import Derived.Test.YtpbmpdocgplhpaaDoorMV
set_option linter.unusedSimpArgs false
set_option linter.unusedVariables false
set_option maxRecDepth 100000
namespace Go.Proofs.YtpbmpdocgplhpaaDoor
open Go Go.AM

theorem u56 : ti Tryd.prog 56 = some ⟨.array 3 3, 3, 24, .agg #[I 0, I 0, I 0]⟩ := by kernel_rfl
/-- Three indices that are in a list. -/
def in3 (L : List ByteArray) (x y z : Int) : Bool := decide (0 ≤ x ∧ x < L.length ∧ 0 ≤ y ∧ y < L.length ∧ 0 ≤ z ∧ z < L.length)
def isClF (L : List ByteArray) (x y z : Int) : Bool := in3 L x y z && clF (L.getD x.toNat .empty) (L.getD y.toNat .empty) (L.getD z.toNat .empty) 1
def el3 (x y z : Int) (i : Nat) : Int := if i = 0 then x else if i = 1 then y else z
theorem getD_at (L : List ByteArray) (i : Nat) (hi : i < L.length) : L.getD i .empty = L[i] := by simp [List.getD, hi]

theorem ld56 {h : AHeap} {b : Nat} {own : Bool} {x y z : Int} (hb : h[b]? = some (.row [I x, I y, I z] own)) (i : Nat) (hi : i < 3) : aload Tryd.prog h 3 (.pointer (some ⟨b, 0 + (i : Int).toNat * 1, none⟩)) = some (I (el3 x y z i)) := by
  refine load_row ti3 rfl hb ?_
  match i, hi with
  | 0, _ => rfl
  | 1, _ => rfl
  | 2, _ => rfl

theorem ris_loop {X : Ext} (hX69 : X 69 = none) (h : AHeap) (a : Option Addr) (kk : Nat) (L : List ByteArray) (n : Nat) (hL : L.length < 1000000) (hst : Strs h a L) (hw : ∀ w ∈ L, w.size = n) (hn : n ≤ 1000) (b : Nat) (x y z : Int) (hb : h[b]? = some (.row [I x, I y, I z] true)) :
    ∀ (t i : Nat) (f : Nat → Value), i + t = 3 → (∀ j, j < i → 0 ≤ el3 x y z j ∧ el3 x y z j < L.length) → Knows f [(0, .slice a L.length kk), (3, .pointer (some ⟨b, 0, none⟩)), (5, I i)] →
    Fin Tryd.prog X none Tryd.f45.ntmps (lpN Tryd.f45 0) .normal ⟨f, h⟩ (fun e s => (e = .normal ∨ e = .ret) ∧ ∃ r, fresults Tryd.prog Tryd.f45.results.toList s = some r ∧ r = .bool (isClF L x y z) ∧ s.h = h) := by
  have hno : ∀ i, i < 3 → ¬(0 ≤ el3 x y z i ∧ el3 x y z i < L.length) → isClF L x y z = false := by
    intro i hi h
    unfold isClF in3
    rw [decide_eq_false, Bool.false_and]
    intro hh
    apply h
    match i, hi with
    | 0, _ => exact ⟨hh.1, hh.2.1⟩
    | 1, _ => exact ⟨hh.2.2.1, hh.2.2.2.1⟩
    | 2, _ => exact ⟨hh.2.2.2.2.1, hh.2.2.2.2.2⟩
  intro t
  induction t with
  | zero =>
    intro i f hi hall hf
    obtain rfl : i = 3 := by omega
    have hx : 0 ≤ x ∧ x < L.length := hall 0 (by omega)
    have hy : 0 ≤ y ∧ y < L.length := hall 1 (by omega)
    have hz : 0 ≤ z ∧ z < L.length := hall 2 (by omega)
    have hlx : x.toNat < L.length := by omega
    have hly : y.toNat < L.length := by omega
    have hlz : z.toNat < L.length := by omega
    obtain ⟨b1, o, rfl, _⟩ := hst.at hlx
    have ld : ∀ w : Int, 0 ≤ w → w < L.length → aload Tryd.prog h 9 (.pointer (some ⟨b1, o + w.toNat * 1, none⟩)) = some (.string (L.getD w.toNat .empty)) := by
      intro w h1 h2
      rw [getD_at L w.toNat (by omega)]
      exact hst.load9 (by omega) rfl (by omega)
    have hu : ∀ w : Int, 0 ≤ w → w < L.length → (L.getD w.toNat .empty).size = n := by
      intro w h1 h2
      rw [getD_at L w.toNat (by omega)]
      exact hw _ (List.getElem_mem _)
    have hin : isClF L x y z = clF (L.getD x.toNat .empty) (L.getD y.toNat .empty) (L.getD z.toNat .empty) 1 := by
      unfold isClF in3; rw [decide_eq_true ⟨hx.1, hx.2, hy.1, hy.2, hz⟩, Bool.true_and]
    have r := rcl_spec hX69 h (L.getD x.toNat .empty) (L.getD y.toNat .empty) (L.getD z.toNat .empty) (by rw [hu x hx.1 hx.2]; exact hn) (by rw [hu y hy.1 hy.2]; exact hn) (by rw [hu y hy.1 hy.2, hu z hz.1 hz.2]; exact Nat.le_refl _)
    refine Fin_known _ hf ?_
    refine Fin_unrl ?_
    refine Run 1000 ?_
    refine Fin_c (((3 : Nat) : Int) < 3) (by kernel_rfl) (fun h2 => by omega) (fun h2 => ?_)
    refine Run 1000 ?_
    refine Draw (by kernel_rfl) ?_
    refine Run 1000 ?_
    refine IdxP 56 b 0 3 .i64 (0 : Nat) (by kernel_rfl) (by kernel_rfl) u56 rfl ti3 rfl (by omega) (by omega) ?_
    refine Run 1000 ?_
    refine Load 3 (.pointer (some ⟨b, 0 + ((0 : Nat) : Int).toNat * 1, none⟩)) (I x) (by kernel_rfl) (by kernel_rfl) (ld56 hb 0 (by omega)) ?_
    refine Run 1000 ?_
    refine IdxA 22 b1 o 1 L.length kk .i64 x (by kernel_rfl) (by kernel_rfl) ti22 rfl ti9 rfl (by omega) (by omega) ?_
    refine Run 1000 ?_
    refine Load 9 (.pointer (some ⟨b1, o + (x).toNat * 1, none⟩)) (.string (L.getD (x).toNat .empty)) (by kernel_rfl) (by kernel_rfl) (ld x hx.1 hx.2) ?_
    refine Run 1000 ?_
    refine IdxP 56 b 0 3 .i64 (1 : Nat) (by kernel_rfl) (by kernel_rfl) u56 rfl ti3 rfl (by omega) (by omega) ?_
    refine Run 1000 ?_
    refine Load 3 (.pointer (some ⟨b, 0 + ((1 : Nat) : Int).toNat * 1, none⟩)) (I y) (by kernel_rfl) (by kernel_rfl) (ld56 hb 1 (by omega)) ?_
    refine Run 1000 ?_
    refine IdxA 22 b1 o 1 L.length kk .i64 y (by kernel_rfl) (by kernel_rfl) ti22 rfl ti9 rfl (by omega) (by omega) ?_
    refine Run 1000 ?_
    refine Load 9 (.pointer (some ⟨b1, o + (y).toNat * 1, none⟩)) (.string (L.getD (y).toNat .empty)) (by kernel_rfl) (by kernel_rfl) (ld y hy.1 hy.2) ?_
    refine Run 1000 ?_
    refine IdxP 56 b 0 3 .i64 (2 : Nat) (by kernel_rfl) (by kernel_rfl) u56 rfl ti3 rfl (by omega) (by omega) ?_
    refine Run 1000 ?_
    refine Load 3 (.pointer (some ⟨b, 0 + ((2 : Nat) : Int).toNat * 1, none⟩)) (I z) (by kernel_rfl) (by kernel_rfl) (ld56 hb 2 (by omega)) ?_
    refine Run 1000 ?_
    refine IdxA 22 b1 o 1 L.length kk .i64 z (by kernel_rfl) (by kernel_rfl) ti22 rfl ti9 rfl (by omega) (by omega) ?_
    refine Run 1000 ?_
    refine Load 9 (.pointer (some ⟨b1, o + (z).toNat * 1, none⟩)) (.string (L.getD (z).toNat .empty)) (by kernel_rfl) (by kernel_rfl) (ld z hz.1 hz.2) ?_
    refine Run 1000 ?_
    refine Fin_call 69 [.string (L.getD x.toNat .empty), .string (L.getD y.toNat .empty), .string (L.getD z.toNat .empty)] (by kernel_rfl) (by kernel_rfl) r (fun v2 hh2 hv2 => ?_)
    obtain ⟨rfl, rfl⟩ := hv2
    refine Run 1000 ?_
    refine Fin_r (by kernel_rfl) ⟨Or.inr rfl, .bool (clF (L.getD x.toNat .empty) (L.getD y.toNat .empty) (L.getD z.toNat .empty) 1), by kernel_rfl, ?_, rfl⟩
    rw [hin]
  | succ t ih =>
    intro i f hi hall hf
    refine Fin_known _ hf ?_
    refine Fin_unrl ?_
    refine Run 1000 ?_
    refine Fin_c ((i : Int) < 3) (by kernel_rfl) (fun h2 => ?_) (fun h2 => by omega)
    refine Run 1000 ?_
    refine IdxP 56 b 0 3 .i64 i (by kernel_rfl) (by kernel_rfl) u56 rfl ti3 rfl (by omega) (by omega) ?_
    refine Run 1000 ?_
    refine Load 3 (.pointer (some ⟨b, 0 + (i : Int).toNat * 1, none⟩)) (I (el3 x y z i)) (by kernel_rfl) (by kernel_rfl) (ld56 hb i (by omega)) ?_
    refine Run 1000 ?_
    refine Fin_g (el3 x y z i < 0) (by kernel_rfl) (by kernel_rfl) (fun h5 => ?_) (fun h5 => ?_)
    · refine RunA 1000 1 ?_
      refine Fin_r (by kernel_rfl) ⟨Or.inr rfl, .bool false, by kernel_rfl, ?_, rfl⟩
      rw [hno i (by omega) (by omega)]
    · refine Run 1000 ?_
      refine IdxP 56 b 0 3 .i64 i (by kernel_rfl) (by kernel_rfl) u56 rfl ti3 rfl (by omega) (by omega) ?_
      refine Run 1000 ?_
      refine Load 3 (.pointer (some ⟨b, 0 + (i : Int).toNat * 1, none⟩)) (I (el3 x y z i)) (by kernel_rfl) (by kernel_rfl) (ld56 hb i (by omega)) ?_
      refine Run 1000 ?_
      refine Fin_c (el3 x y z i ≥ L.length) (by kernel_rfl) (fun h8 => ?_) (fun h8 => ?_)
      · refine Run 1000 ?_
        refine Fin_r (by kernel_rfl) ⟨Or.inr rfl, .bool false, by kernel_rfl, ?_, rfl⟩
        rw [hno i (by omega) (by omega)]
      · refine Run 1000 ?_
        refine Fin_goto (lpN Tryd.f45 0) h [(0, .slice a L.length kk), (3, .pointer (some ⟨b, 0, none⟩)), (5, I (IntKind.wrap .i64 ((i : Int) + 1)))] (by kernel_rfl) (by kernel_rfl) (by kernel_rfl) (fun f' hf' => ?_)
        rw [wrap_next (n := 3) (by omega) (by omega)] at hf'
        exact ih (i + 1) f' (by omega) (fun j hj => by
          by_cases he : j = i
          · rw [he]; omega
          · exact hall j (by omega)) hf'
theorem ris_spec {X : Ext} (hX : X 45 = none) (hX69 : X 69 = none) (h : AHeap) (a : Option Addr) (kk : Nat) (L : List ByteArray) (n : Nat) (hL : L.length < 1000000) (hst : Strs h a L) (hw : ∀ w ∈ L, w.size = n) (hn : n ≤ 1000) (x y z : Int) :
    Ca Tryd.prog X (.fn 45) [.slice a L.length kk, .agg #[I x, I y, I z]] h (fun v h' => v = .bool (isClF L x y z) ∧ Grew h h') := by
  refine Ca_fn (fn := Tryd.f45) (c := Tryd.f45.body.getD .skip) hX (by kernel_rfl) (by kernel_rfl) (by kernel_rfl) ?_
  refine Run 1000 ?_
  refine Box (.agg #[I x, I y, I z]) (by kernel_rfl) (by kernel_rfl) rfl ?_
  have hrow : (h ++ [AObj.row (Value.agg #[I x, I y, I z]).cells.toList true])[h.length]? = some (.row [I x, I y, I z] true) := by rw [List.getElem?_append_right (Nat.le_refl _)]; simp [Value.cells]
  have G0 : Grew h (h ++ [AObj.row (Value.agg #[I x, I y, I z]).cells.toList true]) := ⟨_, rfl⟩
  refine Run 1000 ?_
  refine Fin_goto (lpN Tryd.f45 0) (h ++ [AObj.row (Value.agg #[I x, I y, I z]).cells.toList true]) [(0, .slice a L.length kk), (3, .pointer (some ⟨h.length, 0, none⟩)), (5, I (0 : Nat))] (by kernel_rfl) (by kernel_rfl) (by kernel_rfl) (fun f' hf' => ?_)
  exact (ris_loop hX69 _ a kk L n hL (hst.grow G0) hw hn h.length x y z hrow 3 0 f' (by omega) (fun j hj => by omega) hf').imp fun e s ⟨he, r, hr, h1, h2⟩ => ⟨he, r, hr, h1, by rw [h2]; exact G0⟩
end Go.Proofs.YtpbmpdocgplhpaaDoor
