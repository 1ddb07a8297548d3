/-
  FlagMakes' plain law: all of its numbers.
-/
import Derived.Test.YtpbmpdocgplhpaaGreatDoorMks45
set_option maxRecDepth 100000
namespace Go.Proofs.YtpbmpdocgplhpaaGreatDoor
open Go Go.AM
theorem madeM_S (R : List ByteArray) : madeM R = madeS R := by
  rw [← madeF_eq]; unfold madeF madeS; rw [sortB_isB]
theorem texts_eq {A B : List ByteArray} (h : textsF A B = true) : A = B := by
  unfold textsF at h
  rw [Bool.and_eq_true, beq_iff_eq] at h
  obtain ⟨h1, h2⟩ := h
  induction A generalizing B with
  | nil => cases B with
    | nil => rfl
    | cons b B => simp at h1
  | cons a A ih => cases B with
    | nil => simp at h1
    | cons b B =>
      rw [List.zip_cons_cons, List.all_cons, Bool.and_eq_true] at h2
      obtain ⟨q1, q2⟩ := h2
      have e1 : a = b := seq_iff.1 q1
      rw [e1, ih (by simpa using h1) q2]
theorem mks_45 : mksOK 4 5 = true := by
  have e : (allM 4 5).filter rRingOK = ringsF 4 5 := (texts_eq (rg_ok (k := 4) (n := 5) (by kernel_rfl))).symm
  unfold mksOK
  simp only [e, madeM_S, q45_1, q45_2, q45_3, q45_4, q45_5, q45_6, Bool.and_self]
theorem mks_all (a b : Nat) (h : inRange a b = true) (ho : b % 2 = 1) : mksOK a b = true := by
  obtain ⟨h1, h2, h3, h4⟩ := inRange_iff.1 h
  have q1 := mks_1
  have q3 := mks_3
  rw [List.all_eq_true] at q1 q3
  have q1 := q1 (a - 1) (by simp; omega)
  have q3 := q3 (a - 1) (by simp; omega)
  rw [show a - 1 + 1 = a by omega] at q1 q3
  have : b = 1 ∨ b = 3 ∨ b = 5 := by omega
  rcases this with rfl | rfl | rfl
  · exact q1
  · exact q3
  · have : a = 1 ∨ a = 2 ∨ a = 3 ∨ a = 4 := by omega
    rcases this with rfl | rfl | rfl | rfl
    · exact mks_15
    · exact mks_25
    · exact mks_35
    · exact mks_45
end Go.Proofs.YtpbmpdocgplhpaaGreatDoor
