/-
  slices.Clone and joined of two lists.
-/
import Derived.Test.YtpbmpdocgplhpaaDoorMC
import Derived.Test.YtpbmpdocgplhpaaDoorMV
import Derived.Test.YtpbmpdocgplhpaaDoorMD
set_option linter.unusedSimpArgs false
set_option linter.unusedVariables false
set_option maxRecDepth 100000
namespace Go.Proofs.YtpbmpdocgplhpaaDoor
open Go Go.AM

theorem clone_spec {X : Ext} (hX : X 66 = none) (h : AHeap) (a : Option Addr) (kk : Nat) (L : List ByteArray) (hL : L.length < 1000000) (hst : Strs h a L) (hn : L = [] → a = none) :
    Ca Tryd.prog X (.fn 66) [.slice a L.length kk] h (fun v h' => Acc h h' v L) := by
  by_cases hne : L = []
  · obtain rfl := hn hne
    refine Ca_fn (fn := Tryd.f66) (c := Tryd.f66.body.getD .skip) hX (by kernel_rfl) (by kernel_rfl) (by kernel_rfl) ?_
    refine Run 1000 ?_
    refine Bin .eql 22 (.slice none L.length kk) (.slice none 0 0) (.bool true) (by kernel_rfl) (by kernel_rfl) (by kernel_rfl) ?_
    refine RunA 1000 3 ?_
    exact Fin_r (by kernel_rfl) ⟨Or.inr rfl, .slice none 0 0, by kernel_rfl, by rw [hne]; exact Acc.nil h⟩
  · obtain ⟨b, o, rfl, hload⟩ := hst.load hne
    have hb : b < h.length := by
      have hpos := List.length_pos_iff.2 hne
      obtain ⟨b2, o2, cs, own, e, hb, hc⟩ := hst.2 0 hpos
      simp only [Option.some.injEq, Addr.mk.injEq, and_true] at e
      obtain ⟨rfl, rfl⟩ := e
      exact lt_of_get hb
    have hpos : 0 < L.length := List.length_pos_iff.2 hne
    have hm : ¬L.length = 0 := by omega
    have hlim : decide (0 + L.length ≤ lim) = true := decide_eq_true (by simp only [lim]; omega)
    have hload' : loadN (h ++ [AObj.row [] true]) b o (L.length * 1) = some (strs L) := by
      have : loadN h b o (L.length * 1) = some (strs L) := by simpa using hload
      rw [← this]
      simp only [loadN, cells?, List.getElem?_append_left hb]
    have e : aappend Tryd.prog (h ++ [AObj.row [] true]) 22 (.slice (some ⟨h.length, 0, some 1⟩) 0 0) (.slice (some ⟨b, o, some 1⟩) L.length kk) = some (.slice (some ⟨(h ++ [AObj.row [] true]).length, 0, some 1⟩) (0 + L.length) (0 + L.length + 1), (h ++ [AObj.row [] true]) ++ [AObj.row ([] ++ strs L) true]) := by
      have hold : loadN (h ++ [AObj.row [] true]) h.length 0 (0 * 1) = some [] := by simp [loadN, cells?]
      have hg : (h ++ [AObj.row [] true])[h.length]? = some (.row [] true) := by rw [List.getElem?_append_right (Nat.le_refl _)]; simp
      simp only [aappend, ti22, elemsLen, ti9, loadElems, if_true, hload', hm, if_false, hlim, limBytes, hold, hg]
      rfl
    refine Ca_fn (fn := Tryd.f66) (c := Tryd.f66.body.getD .skip) hX (by kernel_rfl) (by kernel_rfl) (by kernel_rfl) ?_
    refine Run 1000 ?_
    refine Bin .eql 22 (.slice (some ⟨b, o, some 1⟩) L.length kk) (.slice none 0 0) (.bool false) (by kernel_rfl) (by kernel_rfl) (by kernel_rfl) ?_
    refine RunA 1000 3 ?_
    refine Bld 22 0 [] (.slice (some ⟨h.length, 0, some 1⟩) 0 0) (h ++ [AObj.row [] true]) (by kernel_rfl) (by kernel_rfl) (by simp [abuildSlice, ti22, ti9, zerosOf, afill]) ?_
    refine Run 1000 ?_
    refine App 22 22 (.slice (some ⟨h.length, 0, some 1⟩) 0 0) (.slice (some ⟨b, o, some 1⟩) L.length kk) _ _ (by kernel_rfl) (by kernel_rfl) Tryd.underlying22 (by simp) e ?_
    refine Run 1000 ?_
    refine Fin_r (by kernel_rfl) ⟨Or.inr rfl, .slice (some ⟨(h ++ [AObj.row [] true]).length, 0, some 1⟩) (0 + L.length) (0 + L.length + 1), by kernel_rfl, ?_⟩
    refine ⟨by simp, fun j hj => ?_, Or.inr ⟨(h ++ [AObj.row [] true]).length, by simp, by simp, ?_⟩⟩
    · rw [List.getElem?_append_left (by simp; omega), List.getElem?_append_left hj]
    · rw [List.getElem?_append_right (Nat.le_refl _)]; simp

theorem ti98 : ti Tryd.prog 98 = some ⟨.slice 22, 1, 24, .slice none 0 0⟩ := by kernel_rfl
theorem joined_spec {X : Ext} (hX : X 67 = none) (h : AHeap) (q kq : Nat) (own : Bool) (a1 a2 : Option Addr) (k1 k2 : Nat) (L1 L2 : List ByteArray) (hq : h[q]? = some (.row [.slice a1 L1.length k1, .slice a2 L2.length k2] own)) (s1 : Strs h a1 L1) (s2 : Strs h a2 L2) (hl : L1.length + L2.length < 1000000) :
    Ca Tryd.prog X (.fn 67) [.slice (some ⟨q, 0, some 1⟩) 2 kq] h (fun v h' => Acc h h' v (L1 ++ L2)) := by
  obtain ⟨v1, h1, e1, A1, _⟩ := (Acc.nil h).appL (kk := k1) s1 (by simp; omega)
  rw [List.nil_append] at A1
  obtain ⟨v2, h2, e2, A2, _⟩ := A1.appL (kk := k2) (s2.grow A1.grew) (by omega)
  have hq1 := A1.grew.at hq
  refine Ca_fn (fn := Tryd.f67) (c := Tryd.f67.body.getD .skip) hX (by kernel_rfl) (by kernel_rfl) (by kernel_rfl) ?_
  refine Run 1000 ?_
  refine Fin_goto (lpN Tryd.f67 0) h [(3, .slice none 0 0), (6, .slice (some ⟨q, 0, some 1⟩) 2 kq), (7, I 2), (8, I 0)] (by kernel_rfl) rfl (by kernel_rfl) (fun f' hf' => ?_)
  refine Fin_known _ hf' ?_
  refine Fin_unrl ?_
  refine RunA 1000 1 ?_
  refine IdxA 98 q 0 1 2 kq .i64 0 (by kernel_rfl) (by kernel_rfl) ti98 rfl ti22 rfl (by omega) (by omega) ?_
  refine Run 1000 ?_
  refine Load 22 (.pointer (some ⟨q, 0 + (0 : Int).toNat * 1, none⟩)) (.slice a1 L1.length k1) (by kernel_rfl) (by kernel_rfl) (load_row ti22 rfl hq rfl) ?_
  refine Run 1000 ?_
  refine App 22 22 (.slice none 0 0) (.slice a1 L1.length k1) v1 h1 (by kernel_rfl) (by kernel_rfl) Tryd.underlying22 (by simp) e1 ?_
  refine Run 1000 ?_
  refine Fin_goto (lpN Tryd.f67 0) h1 [(3, v1), (6, .slice (some ⟨q, 0, some 1⟩) 2 kq), (7, I 2), (8, I 1)] (by kernel_rfl) rfl (by kernel_rfl) (fun f1 hf1 => ?_)
  refine Fin_known _ hf1 ?_
  refine Fin_unrl ?_
  refine RunA 1000 1 ?_
  refine IdxA 98 q 0 1 2 kq .i64 1 (by kernel_rfl) (by kernel_rfl) ti98 rfl ti22 rfl (by omega) (by omega) ?_
  refine Run 1000 ?_
  refine Load 22 (.pointer (some ⟨q, 0 + (1 : Int).toNat * 1, none⟩)) (.slice a2 L2.length k2) (by kernel_rfl) (by kernel_rfl) (load_row ti22 rfl hq1 rfl) ?_
  refine Run 1000 ?_
  refine App 22 22 v1 (.slice a2 L2.length k2) v2 h2 (by kernel_rfl) (by kernel_rfl) Tryd.underlying22 (by simp) e2 ?_
  refine Run 1000 ?_
  refine Fin_goto (lpN Tryd.f67 0) h2 [(3, v2), (6, .slice (some ⟨q, 0, some 1⟩) 2 kq), (7, I 2), (8, I 2)] (by kernel_rfl) rfl (by kernel_rfl) (fun f2 hf2 => ?_)
  refine Fin_known _ hf2 ?_
  refine Fin_unrl ?_
  refine RunA 1000 2 ?_
  exact Fin_r (by kernel_rfl) ⟨Or.inr rfl, v2, by kernel_rfl, A2⟩
end Go.Proofs.YtpbmpdocgplhpaaDoor
