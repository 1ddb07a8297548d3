/-
  slices.Clone and joined of two lists.
-/
import Derived.Test.YtpbmpdocgplhpaaGreatDoorMC
import Derived.Test.YtpbmpdocgplhpaaGreatDoorMV
import Derived.Test.YtpbmpdocgplhpaaGreatDoorMD
set_option linter.unusedSimpArgs false
set_option linter.unusedVariables false
set_option maxRecDepth 100000
namespace Go.Proofs.YtpbmpdocgplhpaaGreatDoor
open Go Go.AM

theorem ti98 : ti Tryz.prog 121 = some ⟨.slice 27, 1, 24, .slice none 0 0⟩ := by kernel_rfl
theorem joined_spec {X : Ext} (hX : X 113 = none) (h : AHeap) (q kq : Nat) (own : Bool) (a1 a2 : Option Addr) (k1 k2 : Nat) (L1 L2 : List ByteArray) (hq : h[q]? = some (.row [.slice a1 L1.length k1, .slice a2 L2.length k2] own)) (s1 : Strs h a1 L1) (s2 : Strs h a2 L2) (hl : L1.length + L2.length < 1000000) :
    Ca Tryz.prog X (.fn 113) [.slice (some ⟨q, 0, some 1⟩) 2 kq] h (fun v h' => Acc h h' v (L1 ++ L2)) := by
  obtain ⟨v1, h1, e1, A1, _⟩ := (Acc.nil h).appL (kk := k1) s1 (by simp; omega)
  rw [List.nil_append] at A1
  obtain ⟨v2, h2, e2, A2, _⟩ := A1.appL (kk := k2) (s2.grow A1.grew) (by omega)
  have hq1 := A1.grew.at hq
  refine Ca_fn (fn := Tryz.f113) (c := Tryz.f113.body.getD .skip) hX (by kernel_rfl) (by kernel_rfl) (by kernel_rfl) ?_
  refine Run 1000 ?_
  refine Fin_goto (lpN Tryz.f113 0) h [(3, .slice none 0 0), (6, .slice (some ⟨q, 0, some 1⟩) 2 kq), (7, I 2), (8, I 0)] (by kernel_rfl) rfl (by kernel_rfl) (fun f' hf' => ?_)
  refine Fin_known _ hf' ?_
  refine Fin_unrl ?_
  refine RunA 1000 1 ?_
  refine IdxA 121 q 0 1 2 kq .i64 0 (by kernel_rfl) (by kernel_rfl) ti98 rfl ti22 rfl (by omega) (by omega) ?_
  refine Run 1000 ?_
  refine Load 27 (.pointer (some ⟨q, 0 + (0 : Int).toNat * 1, none⟩)) (.slice a1 L1.length k1) (by kernel_rfl) (by kernel_rfl) (load_row ti22 rfl hq rfl) ?_
  refine Run 1000 ?_
  refine App 27 27 (.slice none 0 0) (.slice a1 L1.length k1) v1 h1 (by kernel_rfl) (by kernel_rfl) Tryz.underlying27 (by simp) e1 ?_
  refine Run 1000 ?_
  refine Fin_goto (lpN Tryz.f113 0) h1 [(3, v1), (6, .slice (some ⟨q, 0, some 1⟩) 2 kq), (7, I 2), (8, I 1)] (by kernel_rfl) rfl (by kernel_rfl) (fun f1 hf1 => ?_)
  refine Fin_known _ hf1 ?_
  refine Fin_unrl ?_
  refine RunA 1000 1 ?_
  refine IdxA 121 q 0 1 2 kq .i64 1 (by kernel_rfl) (by kernel_rfl) ti98 rfl ti22 rfl (by omega) (by omega) ?_
  refine Run 1000 ?_
  refine Load 27 (.pointer (some ⟨q, 0 + (1 : Int).toNat * 1, none⟩)) (.slice a2 L2.length k2) (by kernel_rfl) (by kernel_rfl) (load_row ti22 rfl hq1 rfl) ?_
  refine Run 1000 ?_
  refine App 27 27 v1 (.slice a2 L2.length k2) v2 h2 (by kernel_rfl) (by kernel_rfl) Tryz.underlying27 (by simp) e2 ?_
  refine Run 1000 ?_
  refine Fin_goto (lpN Tryz.f113 0) h2 [(3, v2), (6, .slice (some ⟨q, 0, some 1⟩) 2 kq), (7, I 2), (8, I 2)] (by kernel_rfl) rfl (by kernel_rfl) (fun f2 hf2 => ?_)
  refine Fin_known _ hf2 ?_
  refine Fin_unrl ?_
  refine RunA 1000 2 ?_
  exact Fin_r (by kernel_rfl) ⟨Or.inr rfl, v2, by kernel_rfl, A2⟩
end Go.Proofs.YtpbmpdocgplhpaaGreatDoor
