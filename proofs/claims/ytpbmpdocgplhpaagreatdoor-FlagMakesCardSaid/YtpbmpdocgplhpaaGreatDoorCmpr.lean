/-
  flag.compare: by length, then by letters.
-/
import Derived.Test.YtpbmpdocgplhpaaGreatDoorMD
import Derived.Test.YtpbmpdocgplhpaaGreatDoorMI
import Derived.Test.YtpbmpdocgplhpaaGreatDoorMV
set_option linter.unusedSimpArgs false
set_option linter.unusedVariables false
set_option maxRecDepth 100000
namespace Go.Proofs.YtpbmpdocgplhpaaGreatDoor
open Go Go.AM

def ciF (x y : Int) : Int := if x < y then -1 else if x > y then 1 else 0
def gtS (a b : ByteArray) : Bool := !(ltS a b || a.data.toList == b.data.toList)
def csF (a b : ByteArray) : Int := bif ltS a b then -1 else bif gtS a b then 1 else 0
def orF (x y : Int) : Int := bif x == 0 then y else x
def cmpF (a b : ByteArray) : Int := orF (ciF a.size b.size) (csF a b)

theorem nani_spec {X : Ext} (hX : X 180 = none) (x : Int) (h : AHeap) : Ca Tryz.prog X (.fn 180) [I x] h (fun v h' => v = .bool false ∧ h' = h) := by
  refine Ca_fn (fn := Tryz.f180) (c := Tryz.f180.body.getD .skip) hX (by kernel_rfl) (by kernel_rfl) (by kernel_rfl) ?_
  refine Run 1000 ?_
  exact Fin_r (by kernel_rfl) ⟨Or.inr rfl, .bool (x != x), by kernel_rfl, by simp, rfl⟩
theorem cmpi_spec {X : Ext} (hX : X 157 = none) (hX2 : X 180 = none) (x y : Int) (h : AHeap) : Ca Tryz.prog X (.fn 157) [I x, I y] h (fun v h' => v = I (ciF x y) ∧ h' = h) := by
  refine Ca_fn (fn := Tryz.f157) (c := Tryz.f157.body.getD .skip) hX (by kernel_rfl) (by kernel_rfl) (by kernel_rfl) ?_
  refine Run 1000 ?_
  refine Fin_call 180 [I x] (by kernel_rfl) (by kernel_rfl) (nani_spec hX2 x h) (fun v1 hh1 hv1 => ?_)
  obtain ⟨rfl, rfl⟩ := hv1
  refine Run 1000 ?_
  refine Fin_call 180 [I y] (by kernel_rfl) (by kernel_rfl) (nani_spec hX2 y hh1) (fun v2 hh2 hv2 => ?_)
  obtain ⟨rfl, rfl⟩ := hv2
  refine RunA 1000 2 ?_
  refine Fin_c (x < y) (by kernel_rfl) (fun h1 => ?_) (fun h1 => ?_)
  · refine Run 1000 ?_
    refine Fin_r (by kernel_rfl) ⟨Or.inr rfl, I (-1), by kernel_rfl, ?_, rfl⟩
    unfold ciF; rw [if_pos h1]
  · refine Run 1000 ?_
    refine Fin_c (x > y) (by kernel_rfl) (fun h2 => ?_) (fun h2 => ?_)
    · refine Run 1000 ?_
      refine Fin_r (by kernel_rfl) ⟨Or.inr rfl, I 1, by kernel_rfl, ?_, rfl⟩
      unfold ciF; rw [if_neg h1, if_pos h2]
    · refine Run 1000 ?_
      refine Fin_r (by kernel_rfl) ⟨Or.inr rfl, I 0, by kernel_rfl, ?_, rfl⟩
      unfold ciF; rw [if_neg h1, if_neg h2]
theorem cmps_spec {X : Ext} (hX : X 158 = none) (hX2 : X 174 = none) (a b : ByteArray) (h : AHeap) : Ca Tryz.prog X (.fn 158) [.string a, .string b] h (fun v h' => v = I (csF a b) ∧ h' = h) := by
  refine Ca_fn (fn := Tryz.f158) (c := Tryz.f158.body.getD .skip) hX (by kernel_rfl) (by kernel_rfl) (by kernel_rfl) ?_
  refine Run 1000 ?_
  refine Fin_call 174 [.string a] (by kernel_rfl) (by kernel_rfl) (nan_spec hX2 a h) (fun v1 hh1 hv1 => ?_)
  obtain ⟨rfl, rfl⟩ := hv1
  refine Run 1000 ?_
  refine Fin_call 174 [.string b] (by kernel_rfl) (by kernel_rfl) (nan_spec hX2 b hh1) (fun v2 hh2 hv2 => ?_)
  obtain ⟨rfl, rfl⟩ := hv2
  refine RunA 1000 2 ?_
  obtain ⟨bl, el⟩ : ∃ b1, b1 = ltS a b := ⟨_, rfl⟩
  obtain ⟨bg, eg⟩ : ∃ b1, b1 = gtS a b := ⟨_, rfl⟩
  unfold csF
  rw [← el, ← eg]
  refine Fin_cB bl (Eq.trans (b := .bool (ltS a b)) (by kernel_rfl) (by rw [el])) ?_
  cases bl with
  | true =>
    refine Run 1000 ?_
    exact Fin_r (by kernel_rfl) ⟨Or.inr rfl, I (-1), by kernel_rfl, rfl, rfl⟩
  | false =>
    refine Run 1000 ?_
    refine Fin_cB bg (Eq.trans (b := .bool (gtS a b)) (by kernel_rfl) (by rw [eg])) ?_
    cases bg with
    | true =>
      refine Run 1000 ?_
      exact Fin_r (by kernel_rfl) ⟨Or.inr rfl, I 1, by kernel_rfl, rfl, rfl⟩
    | false =>
      refine Run 1000 ?_
      exact Fin_r (by kernel_rfl) ⟨Or.inr rfl, I 0, by kernel_rfl, rfl, rfl⟩
theorem or_spec {X : Ext} (hX : X 156 = none) (h : AHeap) (q kq : Nat) (own : Bool) (x y : Int) (hq : h[q]? = some (.row [I x, I y] own)) :
    Ca Tryz.prog X (.fn 156) [.slice (some ⟨q, 0, some 1⟩) 2 kq] h (fun v h' => v = I (orF x y) ∧ h' = h) := by
  obtain ⟨bx, ebx⟩ : ∃ b, b = (x == 0) := ⟨_, rfl⟩
  obtain ⟨yb, eby⟩ : ∃ b, b = (y == 0) := ⟨_, rfl⟩
  unfold orF
  rw [← ebx]
  refine Ca_fn (fn := Tryz.f156) (c := Tryz.f156.body.getD .skip) hX (by kernel_rfl) (by kernel_rfl) (by kernel_rfl) ?_
  refine Run 1000 ?_
  refine Fin_goto (lpN Tryz.f156 0) h [(3, I 0), (6, .slice (some ⟨q, 0, some 1⟩) 2 kq), (7, I 2), (8, I 0)] (by kernel_rfl) rfl (by kernel_rfl) (fun f' hf' => ?_)
  refine Fin_known _ hf' ?_
  refine Fin_unrl ?_
  refine RunA 1000 1 ?_
  refine IdxA 77 q 0 1 2 kq .i64 0 (by kernel_rfl) (by kernel_rfl) ti40 rfl ti3 rfl (by omega) (by omega) ?_
  refine Run 1000 ?_
  refine Load 3 (.pointer (some ⟨q, 0 + (0 : Int).toNat * 1, none⟩)) (I x) (by kernel_rfl) (by kernel_rfl) (load_row ti3 rfl hq rfl) ?_
  refine Run 1000 ?_
  refine Fin_cB (!bx) (Eq.trans (b := .bool (!(x == 0))) (by kernel_rfl) (by rw [ebx])) ?_
  cases bx with
  | false =>
    refine Run 1000 ?_
    exact Fin_r (by kernel_rfl) ⟨Or.inr rfl, I x, by kernel_rfl, rfl, rfl⟩
  | true =>
    refine Run 1000 ?_
    refine Fin_goto (lpN Tryz.f156 0) h [(3, I 0), (6, .slice (some ⟨q, 0, some 1⟩) 2 kq), (7, I 2), (8, I 1)] (by kernel_rfl) rfl (by kernel_rfl) (fun f1 hf1 => ?_)
    refine Fin_known _ hf1 ?_
    refine Fin_unrl ?_
    refine RunA 1000 1 ?_
    refine IdxA 77 q 0 1 2 kq .i64 1 (by kernel_rfl) (by kernel_rfl) ti40 rfl ti3 rfl (by omega) (by omega) ?_
    refine Run 1000 ?_
    refine Load 3 (.pointer (some ⟨q, 0 + (1 : Int).toNat * 1, none⟩)) (I y) (by kernel_rfl) (by kernel_rfl) (load_row ti3 rfl hq rfl) ?_
    refine Run 1000 ?_
    refine Fin_cB (!yb) (Eq.trans (b := .bool (!(y == 0))) (by kernel_rfl) (by rw [eby])) ?_
    cases yb with
    | false =>
      refine Run 1000 ?_
      exact Fin_r (by kernel_rfl) ⟨Or.inr rfl, I y, by kernel_rfl, rfl, rfl⟩
    | true =>
      have hy : y = 0 := by have := eby.symm; rw [beq_iff_eq] at this; exact this
      refine Run 1000 ?_
      refine Fin_goto (lpN Tryz.f156 0) h [(3, I 0), (6, .slice (some ⟨q, 0, some 1⟩) 2 kq), (7, I 2), (8, I 2)] (by kernel_rfl) rfl (by kernel_rfl) (fun f2 hf2 => ?_)
      refine Fin_known _ hf2 ?_
      refine Fin_unrl ?_
      refine RunA 1000 2 ?_
      exact Fin_r (by kernel_rfl) ⟨Or.inr rfl, I 0, by kernel_rfl, by rw [hy]; rfl, rfl⟩
structure CmpX (X : Ext) : Prop where
  x95 : X 112 = none
  x117 : X 156 = none
  x118 : X 157 = none
  x119 : X 158 = none
  x129 : X 174 = none
  x134 : X 180 = none
theorem compare_spec {X : Ext} (x : CmpX X) (a b : ByteArray) (h : AHeap) : Ca Tryz.prog X (.fn 112) [.string a, .string b] h (fun v h' => v = I (cmpF a b) ∧ Grew h h') := by
  have hq : (h ++ [AObj.row [I (ciF a.size b.size), I (csF a b)] true])[h.length]? = some (.row [I (ciF a.size b.size), I (csF a b)] true) := by rw [List.getElem?_append_right (Nat.le_refl _)]; simp
  refine Ca_fn (fn := Tryz.f112) (c := Tryz.f112.body.getD .skip) x.x95 (by kernel_rfl) (by kernel_rfl) (by kernel_rfl) ?_
  refine Run 1000 ?_
  refine Fin_call 157 [I a.size, I b.size] (by kernel_rfl) (by kernel_rfl) (cmpi_spec x.x118 x.x134 _ _ h) (fun v1 hh1 hv1 => ?_)
  obtain ⟨rfl, rfl⟩ := hv1
  refine Run 1000 ?_
  refine Fin_call 158 [.string a, .string b] (by kernel_rfl) (by kernel_rfl) (cmps_spec x.x119 x.x129 a b hh1) (fun v2 hh2 hv2 => ?_)
  obtain ⟨rfl, rfl⟩ := hv2
  refine Run 1000 ?_
  refine Bld 77 2 [(0, I (ciF a.size b.size)), (1, I (csF a b))] (.slice (some ⟨hh2.length, 0, some 1⟩) 2 2) (hh2 ++ [AObj.row [I (ciF a.size b.size), I (csF a b)] true]) (by kernel_rfl) (by kernel_rfl) (by simp [abuildSlice, ti40, ti3, zerosOf, afill, splice, isCell, Value.cells, isData]) ?_
  refine Run 1000 ?_
  refine Fin_call 156 [.slice (some ⟨hh2.length, 0, some 1⟩) 2 2] (by kernel_rfl) (by kernel_rfl) (or_spec x.x117 _ hh2.length 2 true _ _ hq) (fun v3 hh3 hv3 => ?_)
  obtain ⟨rfl, e3⟩ := hv3
  refine Run 1000 ?_
  refine Fin_r (by kernel_rfl) ⟨Or.inr rfl, I (cmpF a b), by kernel_rfl, rfl, ?_⟩
  rw [e3]; exact ⟨_, rfl⟩
end Go.Proofs.YtpbmpdocgplhpaaGreatDoor
