/-
  MERGED BY PROGRAM out of the texts Strm AccI Rd Rd2.
-/
import Derived.Test.YtpbmpdocgplhpaaGreatDoorMH
import Derived.Test.YtpbmpdocgplhpaaGreatDoorMF
import Derived.Test.YtpbmpdocgplhpaaGreatDoorMD
/-
  flag.hasRune, openStream and pieces.
-/
set_option linter.unusedSimpArgs false
set_option linter.unusedVariables false
set_option maxRecDepth 100000
namespace Go.Proofs.YtpbmpdocgplhpaaGreatDoor
open Go Go.AM

end Go.Proofs.YtpbmpdocgplhpaaGreatDoor

/-
  Lists of numbers that grow by append.
-/
set_option linter.unusedSimpArgs false
set_option linter.unusedVariables false
set_option maxRecDepth 100000
namespace Go.Proofs.YtpbmpdocgplhpaaGreatDoor
open Go Go.AM

theorem ti40 : ti Tryz.prog 77 = some ⟨.slice 3, 1, 24, .slice none 0 0⟩ := by kernel_rfl

/-- v is the slice of the numbers L, in memory newer than h0 of which all is as it was. -/
structure AccI (h0 h : AHeap) (v : Value) (L : List Int) : Prop where
  le : h0.length ≤ h.length
  old : ∀ j, j < h0.length → h[j]? = h0[j]?
  val : (L = [] ∧ v = .slice none 0 0) ∨ ∃ b, h0.length ≤ b ∧ v = .slice (some ⟨b, 0, some 1⟩) L.length (L.length + 1) ∧ h[b]? = some (.row (ints L) true)

theorem AccI.nil (h : AHeap) : AccI h h (.slice none 0 0) [] := ⟨Nat.le_refl _, fun _ _ => rfl, Or.inl ⟨rfl, rfl⟩⟩
theorem AccI.grew {h0 h : AHeap} {v : Value} {L : List Int} (A : AccI h0 h v L) : Grew h0 h := by
  refine ⟨h.drop h0.length, ?_⟩
  apply List.ext_getElem?
  intro j
  by_cases hj : j < h0.length
  · rw [List.getElem?_append_left hj, A.old j hj]
  · rw [List.getElem?_append_right (by omega), List.getElem?_drop]
    congr 1; omega
theorem AccI.more {h0 h h' : AHeap} {v : Value} {L : List Int} (A : AccI h0 h v L) (g : Grew h h') : AccI h0 h' v L := by
  obtain ⟨g, rfl⟩ := g
  refine ⟨by have := A.le; simp; omega, fun j hj => by rw [List.getElem?_append_left (by have := A.le; omega)]; exact A.old j hj, ?_⟩
  rcases A.val with hh | ⟨b, hb, e, hr⟩
  · exact Or.inl hh
  · exact Or.inr ⟨b, hb, e, by rw [List.getElem?_append_left (lt_of_get hr)]; exact hr⟩
theorem AccI.shape {h0 h : AHeap} {v : Value} {L : List Int} (A : AccI h0 h v L) : ∃ a kk, v = .slice a L.length kk := by
  rcases A.val with ⟨rfl, rfl⟩ | ⟨b, hb, rfl, hr⟩
  · exact ⟨_, _, rfl⟩
  · exact ⟨_, _, rfl⟩

/-- One more number: a literal of one, appended. -/
theorem AccI.app {h0 h : AHeap} {v : Value} {L : List Int} (A : AccI h0 h v L) (s : Int) (hL : L.length < 4294967295) :
    ∃ v' h', aappend Tryz.prog (h ++ [.row [I s] true]) 77 v (.slice (some ⟨h.length, 0, some 1⟩) 1 1) = some (v', h') ∧ AccI h0 h' v' (L ++ [s]) ∧
      h.length ≤ h'.length ∧ ∀ j, (∀ cs, h[j]? ≠ some (.row cs true)) → j < h.length → h'[j]? = h[j]? := by
  have hnew : loadN (h ++ [AObj.row [I s] true]) h.length 0 (1 * 1) = some [I s] := by simp [loadN, cells?]
  have hlim : L.length + 1 ≤ lim := by simp only [lim]; omega
  rcases A.val with ⟨rfl, rfl⟩ | ⟨b, hb, rfl, hr⟩
  · refine ⟨.slice (some ⟨(h ++ [AObj.row [I s] true]).length, 0, some 1⟩) 1 2, (h ++ [AObj.row [I s] true]) ++ [AObj.row [I s] true], ?_, ⟨?_, ?_, ?_⟩, ?_, ?_⟩
    · simp only [aappend, ti40, elemsLen, ti3, loadElems, if_true, hnew]
      have e1 : decide (0 + 1 ≤ lim) = true := by decide
      simp only [e1, limBytes]
      rfl
    · have := A.le; simp; omega
    · intro j hj
      have := A.le
      rw [List.getElem?_append_left (by simp; omega), List.getElem?_append_left (by omega)]
      exact A.old j hj
    · refine Or.inr ⟨(h ++ [AObj.row [I s] true]).length, by have := A.le; simp; omega, rfl, ?_⟩
      rw [List.getElem?_append_right (Nat.le_refl _)]; simp [ints]
    · simp
    · intro j _ hj
      rw [List.getElem?_append_left (by simp; omega), List.getElem?_append_left (by omega)]
  · have hbl : b < h.length := lt_of_get hr
    have hr' : (h ++ [AObj.row [I s] true])[b]? = some (.row (ints L) true) := by rw [List.getElem?_append_left hbl]; exact hr
    have hold : loadN (h ++ [AObj.row [I s] true]) b 0 (L.length * 1) = some (ints L) := by
      simp only [loadN, cells?, hr', ints_length]
      rw [if_pos (by omega)]; simp [List.take_of_length_le, ints_length]
    refine ⟨.slice (some ⟨(h ++ [AObj.row [I s] true]).length, 0, some 1⟩) (L.length + 1) (L.length + 1 + 1), (h ++ [AObj.row [I s] true]).set b AObj.dead ++ [AObj.row (ints L ++ [I s]) true], ?_, ⟨?_, ?_, ?_⟩, ?_, ?_⟩
    · simp only [aappend, ti40, elemsLen, ti3, loadElems, if_true, hnew, hold, hr']
      have e1 : decide (L.length + 1 ≤ lim) = true := by simp [hlim]
      simp [e1, limBytes, isCell]
    · have := A.le; simp; omega
    · intro j hj
      have := A.le
      rw [List.getElem?_append_left (by simp; omega), List.getElem?_set_ne (by omega), List.getElem?_append_left (by omega)]
      exact A.old j hj
    · refine Or.inr ⟨(h ++ [AObj.row [I s] true]).length, by have := A.le; simp; omega, by simp, ?_⟩
      rw [List.getElem?_append_right (by simp)]; simp [ints]
    · simp; omega
    · intro j hn hj
      have hne : b ≠ j := by intro e; subst e; exact hn _ hr
      rw [List.getElem?_append_left (by simp; omega), List.getElem?_set_ne hne, List.getElem?_append_left (by omega)]
theorem AccI.load {h0 h : AHeap} {v : Value} {L : List Int} (A : AccI h0 h v L) (i : Nat) (hi : i < L.length) : ∃ b, v = .slice (some ⟨b, 0, some 1⟩) L.length (L.length + 1) ∧ h[b]? = some (.row (ints L) true) ∧ (ints L)[i]? = some (I L[i]) := by
  rcases A.val with ⟨rfl, rfl⟩ | ⟨b, hb, rfl, hr⟩
  · simp at hi
  · exact ⟨b, rfl, hr, by simp [ints, hi]⟩
end Go.Proofs.YtpbmpdocgplhpaaGreatDoor

/-
  slices.Contains and ContainsFunc of strings; flag.reads, Reads and Cut.
-/
set_option linter.unusedSimpArgs false
set_option linter.unusedVariables false
set_option maxRecDepth 100000
namespace Go.Proofs.YtpbmpdocgplhpaaGreatDoor
open Go Go.AM

/-- Whether a word is one of a list. -/
def isIn (w : ByteArray) (L : List ByteArray) : Bool := L.any fun x => seq w x
structure ReadX (X : Ext) : Prop where
  s : X 80 = none
  r : X 116 = none
  p : X 82 = none
  rd : X 81 = none
  cf : X 117 = none
  ci : X 160 = none
  ni : X 118 = none
  c : X 119 = none
  ix : X 161 = none
end Go.Proofs.YtpbmpdocgplhpaaGreatDoor

/-
  flag.Reads and Cut; the reference's Pieces and Reads.
-/
set_option linter.unusedSimpArgs false
set_option linter.unusedVariables false
set_option maxRecDepth 100000
namespace Go.Proofs.YtpbmpdocgplhpaaGreatDoor
open Go Go.AM

end Go.Proofs.YtpbmpdocgplhpaaGreatDoor
