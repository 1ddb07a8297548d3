/-
  What the library's sort makes of different words: they rise.
-/
import Derived.Test.YtpbmpdocgplhpaaGreatDoorSortC
import Derived.Test.YtpbmpdocgplhpaaGreatDoorGrowPl
import Derived.Test.YtpbmpdocgplhpaaGreatDoorMH
set_option linter.unusedSimpArgs false
set_option linter.unusedVariables false
set_option maxRecDepth 100000
namespace Go.Proofs.YtpbmpdocgplhpaaGreatDoor
open Go Go.AM

theorem bl_iff : ∀ a b : List UInt8, Op.bytesLess a b = true ↔ a < b := by
  intro a
  induction a with
  | nil =>
    intro b
    cases b with
    | nil => simp [Op.bytesLess]
    | cons y b => simp [Op.bytesLess]
  | cons x a ih =>
    intro b
    cases b with
    | nil => simp [Op.bytesLess]
    | cons y b =>
      rw [List.cons_lt_cons_iff]
      simp only [Op.bytesLess]
      by_cases hxy : x < y
      · simp [hxy]
      · by_cases he : x = y
        · subst he; simp [ih]
        · simp [hxy, he]
theorem le_bl (a b : List UInt8) : decide (a ≤ b) = !Op.bytesLess b a := by
  rw [Bool.eq_iff_iff, decide_eq_true_eq, Bool.not_eq_true']
  have h : a ≤ b ↔ ¬(b < a) := Iff.rfl
  rw [h, ← bl_iff, Bool.not_eq_true]
theorem le_tr (a b c : List UInt8) (h1 : decide (a ≤ b) = true) (h2 : decide (b ≤ c) = true) : decide (a ≤ c) = true := by
  rw [le_bl, Bool.not_eq_true'] at h1 h2 ⊢
  rw [Bool.eq_false_iff]
  intro h
  by_cases e : b = a
  · subst e; rw [h2] at h; simp at h
  · have h3 := bl_total _ _ h1 e
    have := bl_trans _ _ _ h h3
    rw [h2] at this; simp at this
theorem le_to (a b : List UInt8) : (decide (a ≤ b) || decide (b ≤ a)) = true := by
  rw [le_bl, le_bl]
  cases h1 : Op.bytesLess b a with
  | false => rfl
  | true =>
    cases h2 : Op.bytesLess a b with
    | false => rfl
    | true =>
      have := bl_trans _ _ _ h1 h2
      rw [bl_irrefl] at this; simp at this
theorem sortB_perm (L : List ByteArray) : (sortB L).Perm L := by
  have h := (List.mergeSort_perm (L.map fun s => s.data.toList) (fun x y => decide (x ≤ y))).map gB
  have e : (L.map fun s => s.data.toList).map gB = L := by
    rw [List.map_map]
    exact (List.map_congr_left (g := id) fun s _ => gB_of s).trans (List.map_id _)
  rw [e] at h
  exact h
/-- All that the law asks of what Grow hands back. -/
structure GrowRes (k n : Nat) (C R : List ByteArray) : Prop where
  code : codeF k n R = true
  free : freeF R = true
  cont : ∀ w ∈ C, w ∈ R
  full : ∀ w ∈ allM k n, w ∈ R ∨ freeF (withS R w) = false
  wd : ∀ w ∈ R, w.size = n ∧ overF k w = true
end Go.Proofs.YtpbmpdocgplhpaaGreatDoor
