/-
  slices.Min of strings.
-/
import Derived.Test.YtpbmpdocgplhpaaDoorTurns
set_option linter.unusedSimpArgs false
set_option linter.unusedVariables false
set_option maxRecDepth 100000
namespace Go.Proofs.YtpbmpdocgplhpaaDoor
open Go Go.AM

def minS (a b : ByteArray) : ByteArray := if (Op.bytesLess a.data.toList b.data.toList || a.data.toList == b.data.toList) = true then a else b

theorem min_loop {X : Ext} (h : AHeap) (a : Option Addr) (kk : Nat) (L : List ByteArray) (hL : L.length < 9223372036854775807) (hs : Strs h a L) :
    ∀ (t i : Nat) (m : ByteArray) (f : Nat → Value), i + t = L.length → Knows f [(0, .slice a L.length kk), (3, .string m), (4, I i)] →
    Fin Tryd.prog X none Tryd.f62.ntmps (lpN Tryd.f62 0) .normal ⟨f, h⟩ (fun e y => (e = .normal ∨ e = .ret) ∧ ∃ v, fresults Tryd.prog Tryd.f62.results.toList y = some v ∧ v = .string ((L.drop i).foldl minS m) ∧ y.h = h) := by
  intro t
  induction t with
  | zero =>
    intro i m f hi hf
    refine Fin_known _ hf ?_
    refine Fin_unrl ?_
    refine Run 1000 ?_
    refine Fin_c ((i : Int) < L.length) (by kernel_rfl) (fun h1 => by omega) (fun h2 => ?_)
    refine Run 1000 ?_
    refine Fin_r (by kernel_rfl) ⟨Or.inr rfl, .string m, by kernel_rfl, ?_, rfl⟩
    rw [List.drop_of_length_le (by omega)]; rfl
  | succ t ih =>
    intro i m f hi hf
    obtain ⟨b, o, cs, own, rfl, hb, hc⟩ := hs.2 i (by omega)
    refine Fin_known _ hf ?_
    refine Fin_unrl ?_
    refine Run 1000 ?_
    refine Fin_c ((i : Int) < L.length) (by kernel_rfl) (fun h1 => ?_) (fun h2 => by omega)
    refine Run 1000 ?_
    refine IdxA 22 b o 1 L.length kk .i64 i (by kernel_rfl) (by kernel_rfl) ti22 rfl ti9 rfl (by omega) (by omega) ?_
    refine Run 1000 ?_
    refine Load 9 (.pointer (some ⟨b, o + (i : Int).toNat * 1, none⟩)) (.string L[i]) (by kernel_rfl) (by kernel_rfl) (load_row ti9 rfl hb (by simpa using hc)) ?_
    refine Run 1000 ?_
    refine Fin_goto (lpN Tryd.f62 0) h [(0, .slice (some ⟨b, o, some 1⟩) L.length kk), (3, .string (minS m L[i])), (4, I (IntKind.wrap .i64 ((i : Int) + 1)))] (by kernel_rfl) (by kernel_rfl) (by kernel_rfl) (fun f' hf' => ?_)
    rw [wrap_next (n := L.length) (by omega) hL] at hf'
    have := ih (i + 1) (minS m L[i]) f' (by omega) hf'
    have hd : (L.drop i).foldl minS m = (L.drop (i + 1)).foldl minS (minS m L[i]) := by
      have : L.drop i = L[i] :: L.drop (i + 1) := List.drop_eq_getElem_cons (by omega)
      rw [this, List.foldl_cons]
    rw [hd]; exact this

theorem min_spec {X : Ext} (hX : X 62 = none) (h : AHeap) (a : Option Addr) (kk : Nat) (L : List ByteArray) (hL : L.length < 9223372036854775807) (hs : Strs h a L) (hne : 0 < L.length) :
    Ca Tryd.prog X (.fn 62) [.slice a L.length kk] h (fun v h' => v = .string ((L.drop 1).foldl minS L[0]) ∧ h' = h) := by
  obtain ⟨b, o, cs, own, rfl, hb, hc⟩ := hs.2 0 hne
  refine Ca_fn (fn := Tryd.f62) (c := Tryd.f62.body.getD .skip) hX (by kernel_rfl) (by kernel_rfl) (by kernel_rfl) ?_
  refine Run 1000 ?_
  refine Fin_c ((L.length : Int) < 1) (by kernel_rfl) (fun h1 => by omega) (fun h1 => ?_)
  refine Run 1000 ?_
  refine IdxA 22 b o 1 L.length kk .i64 0 (by kernel_rfl) (by kernel_rfl) ti22 rfl ti9 rfl (by omega) (by omega) ?_
  refine Run 1000 ?_
  refine Load 9 (.pointer (some ⟨b, o + (0 : Int).toNat * 1, none⟩)) (.string L[0]) (by kernel_rfl) (by kernel_rfl) (load_row ti9 rfl hb (by simpa using hc)) ?_
  refine Run 1000 ?_
  refine Fin_goto (lpN Tryd.f62 0) h [(0, .slice (some ⟨b, o, some 1⟩) L.length kk), (3, .string L[0]), (4, I (1 : Nat))] (by kernel_rfl) (by kernel_rfl) (by kernel_rfl) (fun f' hf' => ?_)
  exact min_loop h (some ⟨b, o, some 1⟩) kk L hL hs (L.length - 1) 1 L[0] f' (by omega) hf'
end Go.Proofs.YtpbmpdocgplhpaaDoor
