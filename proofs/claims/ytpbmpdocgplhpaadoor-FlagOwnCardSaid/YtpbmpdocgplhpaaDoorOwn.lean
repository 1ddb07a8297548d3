/-
  The law's own: strings copied, each cut.
-/
import Derived.Test.YtpbmpdocgplhpaaDoorMC
import Derived.Test.YtpbmpdocgplhpaaDoorME
import Derived.Test.YtpbmpdocgplhpaaDoorMD
import Derived.Test.YtpbmpdocgplhpaaDoorMV
set_option linter.unusedSimpArgs false
set_option linter.unusedVariables false
set_option maxRecDepth 100000
namespace Go.Proofs.YtpbmpdocgplhpaaDoor
open Go Go.AM

def ownS (s : ByteArray) : ByteArray := s.extract 0 (min s.size 6)
def ownF (L : List ByteArray) : List ByteArray := (L.take 1100).map ownS
theorem ownF_length (L : List ByteArray) : (ownF L).length = min 1100 L.length := by simp [ownF]
theorem ownS_size (s : ByteArray) : (ownS s).size ≤ 6 := by unfold ownS; simp; omega
theorem own_loop {X : Ext} (h0 : AHeap) (a : Option Addr) (kk : Nat) (L : List ByteArray) (hL : L.length ≤ 9223372036854775807) (hs0 : Strs h0 a L) :
    ∀ (t i : Nat) (f : Nat → Value) (h : AHeap) (v : Value), i + t = min 1100 L.length → Acc h0 h v ((ownF L).take i) → Knows f [(0, .slice a L.length kk), (3, v), (4, I i)] →
    Fin Tryd.prog X none Tryd.f44.ntmps (lpN Tryd.f44 0) .normal ⟨f, h⟩ (fun e y => (e = .normal ∨ e = .ret) ∧ ∃ v, fresults Tryd.prog Tryd.f44.results.toList y = some v ∧ Acc h0 y.h v (ownF L)) := by
  have hlen := ownF_length L
  intro t
  induction t with
  | zero =>
    intro i f h v hi A hf
    rw [List.take_of_length_le (by omega)] at A
    refine Fin_known _ hf ?_
    refine Fin_unrl ?_
    refine Run 1000 ?_
    refine Fin_g ((i : Int) < L.length) (by kernel_rfl) (by kernel_rfl) (fun h1 => ?_) (fun h1 => ?_)
    · refine Run 1000 ?_
      refine Fin_c ((i : Int) < 1100) (by kernel_rfl) (fun h2 => by omega) (fun h2 => ?_)
      refine Run 1000 ?_
      exact Fin_r (by kernel_rfl) ⟨Or.inr rfl, v, by kernel_rfl, A⟩
    · refine RunA 1000 1 ?_
      exact Fin_r (by kernel_rfl) ⟨Or.inr rfl, v, by kernel_rfl, A⟩
  | succ t ih =>
    intro i f h v hi A hf
    have hlt : i < L.length := by omega
    have hltR : i < (ownF L).length := by omega
    obtain ⟨b, o, rfl, hld⟩ := (hs0.grow A.grew).at hlt
    obtain ⟨s, es⟩ : ∃ s, s = L[i] := ⟨_, rfl⟩
    rw [← es] at hld
    have eR : (ownF L).take (i + 1) = (ownF L).take i ++ [ownS s] := by
      rw [List.take_succ_eq_append_getElem hltR]
      congr 2
      simp only [ownF, List.getElem_map, List.getElem_take, es]
    have hm : (if (6 : Int) < (s.size : Int) then (6 : Int) else (s.size : Int)) = ((min s.size 6 : Nat) : Int) := by split <;> omega
    obtain ⟨v2, hn, ea, A2, _, _⟩ := A.app (ownS s) (by rw [List.length_take]; omega)
    refine Fin_known _ hf ?_
    refine Fin_unrl ?_
    refine Run 1000 ?_
    refine Fin_g ((i : Int) < L.length) (by kernel_rfl) (by kernel_rfl) (fun h1 => ?_) (fun h1 => by omega)
    refine Run 1000 ?_
    refine Fin_c ((i : Int) < 1100) (by kernel_rfl) (fun h2 => ?_) (fun h2 => by omega)
    refine Run 1000 ?_
    refine Draw (by kernel_rfl) ?_
    refine Run 1000 ?_
    refine IdxA 22 b o 1 L.length kk .i64 i (by kernel_rfl) (by kernel_rfl) ti22 rfl ti9 rfl (by omega) (by omega) ?_
    refine Run 1000 ?_
    refine Load 9 (.pointer (some ⟨b, o + (i : Int).toNat * 1, none⟩)) (.string s) (by kernel_rfl) (by kernel_rfl) (by simpa using hld) ?_
    refine Run 1000 ?_
    refine IdxA 22 b o 1 L.length kk .i64 i (by kernel_rfl) (by kernel_rfl) ti22 rfl ti9 rfl (by omega) (by omega) ?_
    refine Run 1000 ?_
    refine Load 9 (.pointer (some ⟨b, o + (i : Int).toNat * 1, none⟩)) (.string s) (by kernel_rfl) (by kernel_rfl) (by simpa using hld) ?_
    refine Run 1000 ?_
    refine Slic 9 (.string s) (.string (ownS s)) none (some (I (if (6 : Int) < (s.size : Int) then (6 : Int) else (s.size : Int)))) none (by kernel_rfl) (by kernel_rfl) (by rw [hm]; exact slice_to s _ (by omega)) ?_
    refine Run 1000 ?_
    refine Bld 22 1 [(0, .string (ownS s))] (.slice (some ⟨h.length, 0, some 1⟩) 1 1) (h ++ [AObj.row [Value.string (ownS s)] true]) (by kernel_rfl) (by kernel_rfl) (by simp [abuildSlice, ti22, ti9, zerosOf, afill, splice, isCell, Value.cells, isData]) ?_
    refine Run 1000 ?_
    refine App 22 22 v (.slice (some ⟨h.length, 0, some 1⟩) 1 1) v2 hn (by kernel_rfl) (by kernel_rfl) Tryd.underlying22 (by simp) ea ?_
    refine Run 1000 ?_
    refine Fin_goto (lpN Tryd.f44 0) hn [(0, .slice (some ⟨b, o, some 1⟩) L.length kk), (3, v2), (4, I (IntKind.wrap .i64 ((i : Int) + 1)))] (by kernel_rfl) rfl (by kernel_rfl) (fun f' hf' => ?_)
    rw [wrap_next (n := 1101) (by omega) (by omega)] at hf'
    exact ih (i + 1) f' hn v2 (by omega) (by rw [eR]; exact A2) hf'
theorem own_spec {X : Ext} (hX : X 44 = none) (h : AHeap) (a : Option Addr) (kk : Nat) (L : List ByteArray) (hL : L.length ≤ 9223372036854775807) (hs0 : Strs h a L) :
    Ca Tryd.prog X (.fn 44) [.slice a L.length kk] h (fun v h' => Acc h h' v (ownF L)) := by
  refine Ca_fn (fn := Tryd.f44) (c := Tryd.f44.body.getD .skip) hX (by kernel_rfl) (by kernel_rfl) (by kernel_rfl) ?_
  refine Run 1000 ?_
  refine Fin_goto (lpN Tryd.f44 0) h [(0, .slice a L.length kk), (3, .slice none 0 0), (4, I (0 : Nat))] (by kernel_rfl) rfl (by kernel_rfl) (fun f' hf' => ?_)
  exact own_loop h a kk L hL hs0 _ 0 f' h _ (Nat.zero_add _) (Acc.nil h) hf'
end Go.Proofs.YtpbmpdocgplhpaaDoor
