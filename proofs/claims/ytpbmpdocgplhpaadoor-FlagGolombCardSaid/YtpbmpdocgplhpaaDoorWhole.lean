/-
  flag.isWhole of a short word.
-/
import Derived.Test.YtpbmpdocgplhpaaDoorWords
set_option linter.unusedSimpArgs false
set_option linter.unusedVariables false
set_option maxRecDepth 100000
namespace Go.Proofs.YtpbmpdocgplhpaaDoor
open Go Go.AM

theorem Acc.as_strs {h0 h : AHeap} {v : Value} {L : List ByteArray} (A : Acc h0 h v L) : ∃ a kk, v = .slice a L.length kk ∧ Strs h a L := by
  rcases A.val with ⟨rfl, rfl⟩ | ⟨b, hb, rfl, hr⟩
  · exact ⟨none, 0, rfl, Or.inl rfl, by intro i hi; simp at hi⟩
  · refine ⟨_, _, rfl, Or.inr ⟨b, 0, rfl⟩, fun i hi => ⟨b, 0, strs L, true, rfl, hr, ?_⟩⟩
    rw [Nat.zero_add]; exact strs_get (List.getElem?_eq_getElem hi)
theorem Acc.row {h0 h : AHeap} {v : Value} {L : List ByteArray} (A : Acc h0 h v L) (hL : 0 < L.length) : ∃ b, h0.length ≤ b ∧ v = .slice (some ⟨b, 0, some 1⟩) L.length (L.length + 1) ∧ h[b]? = some (.row (strs L) true) := by
  rcases A.val with ⟨rfl, rfl⟩ | ⟨b, hb, rfl, hr⟩
  · simp at hL
  · exact ⟨b, hb, rfl, hr⟩
theorem Grew.refl (h : AHeap) : Grew h h := ⟨[], by simp⟩
theorem Grew.trans {h h1 h2 : AHeap} (a : Grew h h1) (b : Grew h1 h2) : Grew h h2 := by
  obtain ⟨g, rfl⟩ := a; obtain ⟨g2, rfl⟩ := b; exact ⟨g ++ g2, by simp⟩
theorem Grew.set {h h1 : AHeap} (a : Grew h h1) {b : Nat} (hb : h.length ≤ b) (o : AObj) : Grew h (h1.set b o) := by
  obtain ⟨g, rfl⟩ := a
  exact ⟨g.set (b - h.length) o, by rw [List.set_append_right _ _ hb]⟩
theorem Grew.get {h h1 : AHeap} (a : Grew h h1) {j : Nat} (hj : j < h.length) : h1[j]? = h[j]? := by
  obtain ⟨g, rfl⟩ := a; exact List.getElem?_append_left hj
theorem Grew.le {h h1 : AHeap} (a : Grew h h1) : h.length ≤ h1.length := by
  obtain ⟨g, rfl⟩ := a; simp
theorem Grew.at {h h1 : AHeap} (a : Grew h h1) {j : Nat} {o : AObj} (hj : h[j]? = some o) : h1[j]? = some o := (a.get (lt_of_get hj)).trans hj

theorem turnsTo_length (w : ByteArray) (n : Nat) : (turnsTo w n).length = n := by simp [turnsTo]
theorem whole_spec {X : Ext} (hX : X 61 = none) (hX2 : X 63 = none) (x : SortX X) (w : ByteArray) (hw : ascii w) (h1 : 1 ≤ w.size) (h12 : w.size ≤ 12) (h : AHeap) :
    Ca Tryd.prog X (.fn 61) [.string w] h (fun v h' => v = .bool (wholeF w) ∧ Grew h h') := by
  refine Ca_fn (fn := Tryd.f61) (c := Tryd.f61.body.getD .skip) hX (by kernel_rfl) (by kernel_rfl) (by kernel_rfl) ?_
  refine Run 1000 ?_
  refine Fin_call 63 [.string w] (by kernel_rfl) (by kernel_rfl) (turns_spec hX2 w hw (by omega) h) (fun v1 hh1 A => ?_)
  have hl := turnsTo_length w w.size
  obtain ⟨b, hb, rfl, hr⟩ := A.row (by omega)
  have G := A.grew
  refine Run 1000 ?_
  have hs := sorted_small x hh1 b ((turnsTo w w.size).length + 1) (turnsTo w w.size) hr (by omega)
  refine Fin_call 64 [.slice (some ⟨b, 0, some 1⟩) (turnsTo w w.size).length ((turnsTo w w.size).length + 1)] (by kernel_rfl) (by kernel_rfl) hs (fun v2 hh2 hv2 => ?_)
  obtain ⟨L', kk', rfl, rfl, h3, h4⟩ := hv2
  refine Run 1000 ?_
  refine Fin_r (by kernel_rfl) ⟨Or.inr rfl, .bool (((sortedF (turnsTo w w.size)).length : Int) == w.size), by kernel_rfl, ?_, G.set hb _⟩
  unfold wholeF
  congr 1
theorem first_spec {X : Ext} (hX : X 62 = none) (w : ByteArray) (h0 h : AHeap) (v : Value) (A : Acc h0 h v (turnsTo w w.size)) (h1 : 1 ≤ w.size) (h2 : w.size < 1000000) :
    Ca Tryd.prog X (.fn 62) [v] h (fun v h' => v = .string (firstF w) ∧ h' = h) := by
  obtain ⟨a, kk, rfl, hs⟩ := A.as_strs
  have hl := turnsTo_length w w.size
  refine (min_spec hX h a kk (turnsTo w w.size) (by omega) hs (by omega)).imp fun v h' ⟨hv, hh⟩ => ⟨?_, hh⟩
  rw [hv]; unfold firstF
  congr 2
  rw [List.getD_eq_getElem?_getD, List.getElem?_eq_getElem (by omega)]; rfl
end Go.Proofs.YtpbmpdocgplhpaaDoor
