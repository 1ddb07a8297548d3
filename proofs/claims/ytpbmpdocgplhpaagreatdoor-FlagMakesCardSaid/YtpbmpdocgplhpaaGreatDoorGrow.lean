/-
  flag.Grow.
-/
import Derived.Test.YtpbmpdocgplhpaaGreatDoorGrowY
import Derived.Test.YtpbmpdocgplhpaaGreatDoorMH
set_option linter.unusedSimpArgs false
set_option linter.unusedVariables false
set_option maxRecDepth 100000
namespace Go.Proofs.YtpbmpdocgplhpaaGreatDoor
open Go Go.AM

theorem Grew.of_get {h h' : AHeap} (hl : h.length ≤ h'.length) (hg : ∀ j, j < h.length → h'[j]? = h[j]?) : Grew h h' := by
  refine ⟨h'.drop h.length, ?_⟩
  apply List.ext_getElem?
  intro j
  by_cases hj : j < h.length
  · rw [hg j hj, List.getElem?_append_left hj]
  · rw [List.getElem?_append_right (by omega), List.getElem?_drop]; congr 1; omega
/-- A list of strings in new memory. -/
def GRes (h h' : AHeap) (v : Value) (R : List ByteArray) : Prop :=
  Grew h h' ∧ ((R = [] ∧ v = .slice none 0 0) ∨ ∃ b kk L', h.length ≤ b ∧ v = .slice (some ⟨b, 0, some 1⟩) R.length kk ∧ h'[b]? = some (.row (strs L') true) ∧ L'.take R.length = R)
theorem GRes.strs {h h' : AHeap} {v : Value} {R : List ByteArray} (g : GRes h h' v R) : ∃ a kk, v = .slice a R.length kk ∧ Strs h' a R := by
  rcases g.2 with ⟨rfl, rfl⟩ | ⟨b, kk, L', _, rfl, hb, ht⟩
  · exact ⟨none, 0, rfl, Or.inl rfl, fun i hi => by simp at hi⟩
  · refine ⟨_, kk, rfl, Or.inr ⟨b, 0, rfl⟩, fun i hi => ⟨b, 0, _, true, rfl, hb, ?_⟩⟩
    rw [Nat.zero_add]
    refine strs_get ?_
    have h1 : (L'.take R.length)[i]? = R[i]? := by rw [ht]
    rw [List.getElem?_take, if_pos hi] at h1
    rw [h1, List.getElem?_eq_getElem hi]

theorem words_len' : ∀ k : Fin 5, ∀ n : Fin 6, (wordsL k n).length < 100000 := by decide +kernel
end Go.Proofs.YtpbmpdocgplhpaaGreatDoor
