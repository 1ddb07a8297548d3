/-
  What the functions answer when the numbers or the code are refused.
-/
import Derived.Test.YtpbmpdocgplhpaaDoorMH
import Derived.Test.YtpbmpdocgplhpaaDoorMD
set_option linter.unusedSimpArgs false
set_option linter.unusedVariables false
set_option maxRecDepth 100000
namespace Go.Proofs.YtpbmpdocgplhpaaDoor
open Go Go.AM

section
variable {X : Ext} (hX49 : X 49 = none) (x : OverX X) (k n : Int) (h : AHeap) (a : Option Addr) (kk : Nat) (L : List ByteArray) (hL : L.length < 1000000) (hst : Strs h a L)
include hX49 x hL hst
theorem chk_spec (hX : X 48 = none) : Ca Tryd.prog X (.fn 48) [I k, I n, .slice a L.length kk] h (fun v h' => v = I (openF k n L) ∧ Grew h h') := by
  refine Ca_fn (fn := Tryd.f48) (c := Tryd.f48.body.getD .skip) hX (by kernel_rfl) (by kernel_rfl) (by kernel_rfl) ?_
  refine Run 1000 ?_
  refine Fin_call 49 [I k, I n, .slice a L.length kk] (by kernel_rfl) (by kernel_rfl) (open_spec hX49 x k n h a kk L (by omega) hst) (fun v1 hh1 hv1 => ?_)
  obtain ⟨rfl, G⟩ := hv1
  refine Run 1000 ?_
  exact Fin_r (by kernel_rfl) ⟨Or.inr rfl, I (openF k n L), by kernel_rfl, rfl, G⟩
variable (e : Int) (he : (e == 0) = false) (hop : openF k n L = e)
include he hop
theorem clash_no (hX : X 33 = none) : Ca Tryd.prog X (.fn 33) [I k, I n, .slice a L.length kk] h (fun v h' => v = .tuple #[.agg #[I 0, I 0, I 0], .bool false, I e] ∧ Grew h h') := by
  obtain ⟨d6, hd6, _⟩ := ti56
  refine Ca_fn (fn := Tryd.f33) (c := Tryd.f33.body.getD .skip) hX (by kernel_rfl) (by kernel_rfl) (by kernel_rfl) ?_
  refine Run 1000 ?_
  refine Alloc 56 (by kernel_rfl) (by kernel_rfl) hd6 rfl ?_
  refine Run 1000 ?_
  have G1 : Grew h (h ++ [AObj.row (Value.agg #[I 0, I 0, I 0]).cells.toList true]) := ⟨_, rfl⟩
  have r1 : (h ++ [AObj.row (Value.agg #[I 0, I 0, I 0]).cells.toList true])[h.length]? = some (.row [I 0, I 0, I 0] true) := by rw [List.getElem?_append_right (Nat.le_refl _)]; simp [Value.cells]
  refine Fin_call 49 [I k, I n, .slice a L.length kk] (by kernel_rfl) (by kernel_rfl) (open_spec hX49 x k n _ a kk L (by omega) (hst.grow G1)) (fun v2 hh2 hv2 => ?_)
  obtain ⟨rfl, G2⟩ := hv2
  rw [hop]
  have r2 := G2.at r1
  refine Run 1000 ?_
  refine Fin_cB true (Eq.trans (b := .bool (!(e == 0))) (by kernel_rfl) (by rw [he]; rfl)) ?_
  refine Run 1000 ?_
  refine PureV (.agg #[I 0, I 0, I 0]) (by kernel_rfl) (by kernel_rfl) (by kernel_rfl) ?_
  refine Run 1000 ?_
  refine Store 56 (.pointer (some ⟨h.length, 0, none⟩)) (.agg #[I 0, I 0, I 0]) _ (by kernel_rfl) (by kernel_rfl) (store56 r2) ?_
  refine Run 1000 ?_
  have hres := load56 (b := h.length) (own := true) (h := hh2.set h.length (.row [I 0, I 0, I 0] true)) (List.getElem?_set_self (lt_of_get r2))
  refine Fin_r (by kernel_rfl) ⟨Or.inr rfl, .tuple #[.agg #[I 0, I 0, I 0], .bool false, I e], Eq.trans (fresults_cell3 (a := 6) (b := 7) (c := 8) (ty := 56) (v := .agg #[I 0, I 0, I 0]) (by kernel_rfl) (Eq.trans (by kernel_rfl) hres)) (by kernel_rfl), rfl, ?_⟩
  exact (G1.trans G2).set (Nat.le_refl _) _
theorem isclash_no (hX : X 46 = none) (p q r : Int) : Ca Tryd.prog X (.fn 46) [I k, I n, .slice a L.length kk, .agg #[I p, I q, I r]] h (fun v h' => v = .tuple #[.bool false, I e] ∧ Grew h h') := by
  refine Ca_fn (fn := Tryd.f46) (c := Tryd.f46.body.getD .skip) hX (by kernel_rfl) (by kernel_rfl) (by kernel_rfl) ?_
  refine Run 1000 ?_
  refine Box (.agg #[I p, I q, I r]) (by kernel_rfl) (by kernel_rfl) rfl ?_
  have G0 : Grew h (h ++ [AObj.row (Value.agg #[I p, I q, I r]).cells.toList true]) := ⟨_, rfl⟩
  refine Run 1000 ?_
  refine Fin_call 49 [I k, I n, .slice a L.length kk] (by kernel_rfl) (by kernel_rfl) (open_spec hX49 x k n _ a kk L (by omega) (hst.grow G0)) (fun v2 hh2 hv2 => ?_)
  obtain ⟨rfl, G2⟩ := hv2
  rw [hop]
  refine Run 1000 ?_
  refine Fin_cB true (Eq.trans (b := .bool (!(e == 0))) (by kernel_rfl) (by rw [he]; rfl)) ?_
  refine Run 1000 ?_
  exact Fin_r (by kernel_rfl) ⟨Or.inr rfl, .tuple #[.bool false, I e], by kernel_rfl, rfl, G0.trans G2⟩
theorem stream_no (hX : X 54 = none) (s : ByteArray) : Ca Tryd.prog X (.fn 54) [I k, I n, .slice a L.length kk, .string s] h (fun v h' => v = I e ∧ Grew h h') := by
  refine Ca_fn (fn := Tryd.f54) (c := Tryd.f54.body.getD .skip) hX (by kernel_rfl) (by kernel_rfl) (by kernel_rfl) ?_
  refine Run 1000 ?_
  refine Fin_call 49 [I k, I n, .slice a L.length kk] (by kernel_rfl) (by kernel_rfl) (open_spec hX49 x k n h a kk L (by omega) hst) (fun v2 hh2 hv2 => ?_)
  obtain ⟨rfl, G2⟩ := hv2
  rw [hop]
  refine Run 1000 ?_
  refine Fin_cB true (Eq.trans (b := .bool (!(e == 0))) (by kernel_rfl) (by rw [he]; rfl)) ?_
  refine Run 1000 ?_
  exact Fin_r (by kernel_rfl) ⟨Or.inr rfl, I e, by kernel_rfl, rfl, G2⟩
theorem reads_no (hX : X 24 = none) (hX54 : X 54 = none) (s : ByteArray) : Ca Tryd.prog X (.fn 24) [I k, I n, .slice a L.length kk, .string s] h (fun v h' => v = .tuple #[.slice none 0 0, I e] ∧ Grew h h') := by
  refine Ca_fn (fn := Tryd.f24) (c := Tryd.f24.body.getD .skip) hX (by kernel_rfl) (by kernel_rfl) (by kernel_rfl) ?_
  refine Run 1000 ?_
  refine Fin_call 54 [I k, I n, .slice a L.length kk, .string s] (by kernel_rfl) (by kernel_rfl) (stream_no hX49 x k n h a kk L hL hst e he hop hX54 s) (fun v2 hh2 hv2 => ?_)
  obtain ⟨rfl, G2⟩ := hv2
  refine Run 1000 ?_
  refine Fin_cB true (Eq.trans (b := .bool (!(e == 0))) (by kernel_rfl) (by rw [he]; rfl)) ?_
  refine Run 1000 ?_
  exact Fin_r (by kernel_rfl) ⟨Or.inr rfl, .tuple #[.slice none 0 0, I e], by kernel_rfl, rfl, G2⟩
theorem cut_no (hX : X 25 = none) (hX54 : X 54 = none) (s : ByteArray) : Ca Tryd.prog X (.fn 25) [I k, I n, .slice a L.length kk, .string s] h (fun v h' => v = .tuple #[.slice none 0 0, .bool false, I e] ∧ Grew h h') := by
  refine Ca_fn (fn := Tryd.f25) (c := Tryd.f25.body.getD .skip) hX (by kernel_rfl) (by kernel_rfl) (by kernel_rfl) ?_
  refine Run 1000 ?_
  refine Fin_call 54 [I k, I n, .slice a L.length kk, .string s] (by kernel_rfl) (by kernel_rfl) (stream_no hX49 x k n h a kk L hL hst e he hop hX54 s) (fun v2 hh2 hv2 => ?_)
  obtain ⟨rfl, G2⟩ := hv2
  refine Run 1000 ?_
  refine Fin_cB true (Eq.trans (b := .bool (!(e == 0))) (by kernel_rfl) (by rw [he]; rfl)) ?_
  refine Run 1000 ?_
  exact Fin_r (by kernel_rfl) ⟨Or.inr rfl, .tuple #[.slice none 0 0, .bool false, I e], by kernel_rfl, rfl, G2⟩
theorem grow_no (hX : X 41 = none) : Ca Tryd.prog X (.fn 41) [I k, I n, .slice a L.length kk] h (fun v h' => v = .tuple #[.slice none 0 0, I e] ∧ Grew h h') := by
  refine Ca_fn (fn := Tryd.f41) (c := Tryd.f41.body.getD .skip) hX (by kernel_rfl) (by kernel_rfl) (by kernel_rfl) ?_
  refine Run 1000 ?_
  refine Fin_call 49 [I k, I n, .slice a L.length kk] (by kernel_rfl) (by kernel_rfl) (open_spec hX49 x k n h a kk L (by omega) hst) (fun v2 hh2 hv2 => ?_)
  obtain ⟨rfl, G2⟩ := hv2
  rw [hop]
  refine Run 1000 ?_
  refine Fin_cB true (Eq.trans (b := .bool (!(e == 0))) (by kernel_rfl) (by rw [he]; rfl)) ?_
  refine Run 1000 ?_
  exact Fin_r (by kernel_rfl) ⟨Or.inr rfl, .tuple #[.slice none 0 0, I e], by kernel_rfl, rfl, G2⟩
end
theorem make_no {X : Ext} (hX : X 47 = none) (hX49 : X 49 = none) (k n : Int) (hin : inRange k n = false) (h : AHeap) : Ca Tryd.prog X (.fn 47) [I k, I n] h (fun v h' => v = .tuple #[.slice none 0 0, I 1] ∧ h' = h) := by
  have c := open_nil hX49 k n h
  rw [hin] at c
  refine Ca_fn (fn := Tryd.f47) (c := Tryd.f47.body.getD .skip) hX (by kernel_rfl) (by kernel_rfl) (by kernel_rfl) ?_
  refine Run 1000 ?_
  refine Fin_call 49 [I k, I n, .slice none 0 0] (by kernel_rfl) (by kernel_rfl) c (fun v2 hh2 hv2 => ?_)
  obtain ⟨rfl, rfl⟩ := hv2
  refine RunA 1000 3 ?_
  exact Fin_r (by kernel_rfl) ⟨Or.inr rfl, .tuple #[.slice none 0 0, I 1], by kernel_rfl, rfl, rfl⟩
theorem rings_no {X : Ext} (hX : X 15 = none) (hX49 : X 49 = none) (k n : Int) (hin : inRange k n = false) (h : AHeap) : Ca Tryd.prog X (.fn 15) [I k, I n] h (fun v h' => v = .tuple #[.slice none 0 0, I 1] ∧ h' = h) := by
  have c := open_nil hX49 k n h
  rw [hin] at c
  refine Ca_fn (fn := Tryd.f15) (c := Tryd.f15.body.getD .skip) hX (by kernel_rfl) (by kernel_rfl) (by kernel_rfl) ?_
  refine Run 1000 ?_
  refine Fin_call 49 [I k, I n, .slice none 0 0] (by kernel_rfl) (by kernel_rfl) c (fun v2 hh2 hv2 => ?_)
  obtain ⟨rfl, rfl⟩ := hv2
  refine RunA 1000 3 ?_
  exact Fin_r (by kernel_rfl) ⟨Or.inr rfl, .tuple #[.slice none 0 0, I 1], by kernel_rfl, rfl, rfl⟩
end Go.Proofs.YtpbmpdocgplhpaaDoor
