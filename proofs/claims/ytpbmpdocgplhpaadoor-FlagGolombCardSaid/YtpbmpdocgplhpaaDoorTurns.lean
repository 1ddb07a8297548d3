/-
  'flag.turns' of a word of bytes below 128.
-/
import Derived.Test.YtpbmpdocgplhpaaDoorAcc
import Derived.Laws.RangeString
set_option linter.unusedSimpArgs false
set_option linter.unusedVariables false
set_option maxRecDepth 100000
namespace Go.Proofs.YtpbmpdocgplhpaaDoor
open Go Go.AM

def turnAt (w : ByteArray) (i : Nat) : ByteArray := w.extract i w.size ++ w.extract 0 i
def turnsTo (w : ByteArray) (i : Nat) : List ByteArray := (List.range i).map (turnAt w)
def ascii (w : ByteArray) : Prop := ∀ i (h : i < w.size), (w[i]'h).toNat < 128

theorem slice_from (w : ByteArray) (i : Nat) (h : i ≤ w.size) : aslice Tryd.prog 9 (.string w) (some (I i)) none none = some (.string (w.extract i w.size)) := by
  simp only [aslice, ti9, abound, asIdx]
  rw [if_pos ⟨by omega, by omega⟩]; simp
theorem slice_to (w : ByteArray) (i : Nat) (h : i ≤ w.size) : aslice Tryd.prog 9 (.string w) none (some (I i)) none = some (.string (w.extract 0 i)) := by
  simp only [aslice, ti9, abound, asIdx]
  rw [if_pos ⟨by omega, by omega⟩]; simp

theorem turns_loop {X : Ext} (h0 : AHeap) (w : ByteArray) (hw : ascii w) (hs : w.size < 1000000) (r : Nat) (hr0 : h0.length ≤ r) :
    ∀ (t i : Nat) (f : Nat → Value) (h : AHeap) (v : Value), i + t = w.size → Acc h0 h v (turnsTo w i) → h[r]? = some (.siter w i) → Knows f [(0, .string w), (3, v), (6, .pointer (some ⟨r, 0, none⟩))] →
    Fin Tryd.prog X none Tryd.f63.ntmps (lpN Tryd.f63 0) .normal ⟨f, h⟩ (fun e y => (e = .normal ∨ e = .ret) ∧ ∃ v, fresults Tryd.prog Tryd.f63.results.toList y = some v ∧ Acc h0 y.h v (turnsTo w w.size)) := by
  intro t
  induction t with
  | zero =>
    intro i f h v hi A hr hf
    refine Fin_known _ hf ?_
    refine Fin_unrl ?_
    refine Run 1000 ?_
    refine Nxt r w i (by kernel_rfl) (by kernel_rfl) hr (fun hlt => by omega) (fun _ => ?_)
    refine Run 1000 ?_
    refine Fin_cB false (by kernel_rfl) ?_
    refine Run 1000 ?_
    refine Fin_r (by kernel_rfl) ⟨Or.inr rfl, v, by kernel_rfl, ?_⟩
    have : i = w.size := by omega
    rw [← this]; exact A
  | succ t ih =>
    intro i f h v hi A hr hf
    have hlt : i < w.size := by omega
    refine Fin_known _ hf ?_
    refine Fin_unrl ?_
    refine Run 1000 ?_
    refine Nxt r w i (by kernel_rfl) (by kernel_rfl) hr (fun _ => ?_) (fun hn => absurd hlt hn)
    rw [decode_ascii w i hlt (hw i hlt)]
    refine Run 1000 ?_
    refine Fin_cB true (by kernel_rfl) ?_
    refine Run 1000 ?_
    refine Draw (by kernel_rfl) ?_
    refine Run 1000 ?_
    refine Slic 9 (.string w) (.string (w.extract i w.size)) (some (I i)) none none (by kernel_rfl) (by kernel_rfl) (slice_from w i (by omega)) ?_
    refine Run 1000 ?_
    refine Slic 9 (.string w) (.string (w.extract 0 i)) none (some (I i)) none (by kernel_rfl) (by kernel_rfl) (slice_to w i (by omega)) ?_
    refine Run 1000 ?_
    refine Bin .add 9 (.string (w.extract i w.size)) (.string (w.extract 0 i)) (.string (turnAt w i)) (by kernel_rfl) (by kernel_rfl) (by simp [abin, astr, turnAt, lim]; omega) ?_
    refine Run 1000 ?_
    obtain ⟨v', h', ha, A', hle, hkeep⟩ := Acc.app (h0 := h0) (h := h.set r (.siter w (i + 1))) (v := v) (L := turnsTo w i) ⟨by have := A.le; simpa using this, fun j hj => by rw [List.getElem?_set_ne (by omega)]; exact A.old j hj, by
      rcases A.val with hv | ⟨b, hb, hv, hrow⟩
      · exact Or.inl hv
      · refine Or.inr ⟨b, hb, hv, ?_⟩
        have : r ≠ b := by intro e; subst e; rw [hr] at hrow; simp at hrow
        rw [List.getElem?_set_ne this]; exact hrow⟩ (turnAt w i) (by simp [turnsTo]; omega)
    refine Bld 22 1 [(0, .string (turnAt w i))] (.slice (some ⟨(h.set r (.siter w (i + 1))).length, 0, some 1⟩) 1 1) (h.set r (.siter w (i + 1)) ++ [AObj.row [Value.string (turnAt w i)] true]) (by kernel_rfl) (by kernel_rfl) (by simp [abuildSlice, ti22, ti9, zerosOf, afill, splice, isCell, Value.cells, isData]) ?_
    refine Run 1000 ?_
    refine App 22 22 v (.slice (some ⟨(h.set r (.siter w (i + 1))).length, 0, some 1⟩) 1 1) v' h' (by kernel_rfl) (by kernel_rfl) Tryd.underlying22 (by simp) ha ?_
    refine Run 1000 ?_
    have hlt' : r < h.length := lt_of_get hr
    refine Fin_goto (lpN Tryd.f63 0) h' [(0, .string w), (3, v'), (6, .pointer (some ⟨r, 0, none⟩))] (by kernel_rfl) (by kernel_rfl) (by kernel_rfl) (fun f' hf' => ?_)
    refine ih (i + 1) f' h' v' (by omega) ?_ ?_ hf'
    · have : turnsTo w (i + 1) = turnsTo w i ++ [turnAt w i] := by simp [turnsTo, List.range_succ]
      rw [this]; exact A'
    · rw [hkeep r (by intro cs; rw [List.getElem?_set_self hlt']; simp) (by simpa using hlt'), List.getElem?_set_self hlt']

theorem turns_spec {X : Ext} (hX : X 63 = none) (w : ByteArray) (hw : ascii w) (hs : w.size < 1000000) (h : AHeap) :
    Ca Tryd.prog X (.fn 63) [.string w] h (fun v h' => Acc h h' v (turnsTo w w.size)) := by
  refine Ca_fn (fn := Tryd.f63) (c := Tryd.f63.body.getD .skip) hX (by kernel_rfl) (by kernel_rfl) (by kernel_rfl) ?_
  refine Run 1000 ?_
  refine Rng 9 w (by kernel_rfl) (by kernel_rfl) Tryd.underlying9 ?_
  refine Run 1000 ?_
  refine Fin_goto (lpN Tryd.f63 0) (h ++ [.siter w 0]) [(0, .string w), (3, .slice none 0 0), (6, .pointer (some ⟨h.length, 0, none⟩))] (by kernel_rfl) (by kernel_rfl) (by kernel_rfl) (fun f' hf' => ?_)
  exact turns_loop h w hw hs h.length (Nat.le_refl _) w.size 0 f' _ _ (by omega) ⟨by simp, fun j hj => List.getElem?_append_left hj, Or.inl ⟨rfl, rfl⟩⟩ (by simp) hf'
end Go.Proofs.YtpbmpdocgplhpaaDoor
