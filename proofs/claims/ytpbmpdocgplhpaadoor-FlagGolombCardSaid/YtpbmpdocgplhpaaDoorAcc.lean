/-
  Lists of strings that grow by append.
-/
import Derived.Test.YtpbmpdocgplhpaaDoorSm
set_option linter.unusedSimpArgs false
set_option linter.unusedVariables false
set_option maxRecDepth 100000
namespace Go.Proofs.YtpbmpdocgplhpaaDoor
open Go Go.AM

def strs (L : List ByteArray) : List Value := L.map fun s => .string s
theorem strs_length (L : List ByteArray) : (strs L).length = L.length := by simp [strs]
theorem strs_app (L : List ByteArray) (s : ByteArray) : strs L ++ [.string s] = strs (L ++ [s]) := by simp [strs]

/-- v is the slice of the strings L, in memory newer than h0 of which all is as it was. -/
structure Acc (h0 h : AHeap) (v : Value) (L : List ByteArray) : Prop where
  le : h0.length ≤ h.length
  old : ∀ j, j < h0.length → h[j]? = h0[j]?
  val : (L = [] ∧ v = .slice none 0 0) ∨ ∃ b, h0.length ≤ b ∧ v = .slice (some ⟨b, 0, some 1⟩) L.length (L.length + 1) ∧ h[b]? = some (.row (strs L) true)

theorem Acc.nil (h : AHeap) : Acc h h (.slice none 0 0) [] := ⟨Nat.le_refl _, fun _ _ => rfl, Or.inl ⟨rfl, rfl⟩⟩
theorem Acc.grew {h0 h : AHeap} {v : Value} {L : List ByteArray} (A : Acc h0 h v L) : Grew h0 h := by
  refine ⟨h.drop h0.length, ?_⟩
  apply List.ext_getElem?
  intro j
  by_cases hj : j < h0.length
  · rw [List.getElem?_append_left hj, A.old j hj]
  · rw [List.getElem?_append_right (by omega), List.getElem?_drop]
    congr 1; omega

/-- One more string: a literal of one string, appended. -/
theorem Acc.app {h0 h : AHeap} {v : Value} {L : List ByteArray} (A : Acc h0 h v L) (s : ByteArray) (hL : L.length < 4294967295) :
    ∃ v' h', aappend Tryd.prog (h ++ [.row [.string s] true]) 22 v (.slice (some ⟨h.length, 0, some 1⟩) 1 1) = some (v', h') ∧ Acc h0 h' v' (L ++ [s]) ∧
      h.length ≤ h'.length ∧ ∀ j, (∀ cs, h[j]? ≠ some (.row cs true)) → j < h.length → h'[j]? = h[j]? := by
  have hnew : loadN (h ++ [AObj.row [Value.string s] true]) h.length 0 (1 * 1) = some [.string s] := by simp [loadN, cells?]
  have hlim : L.length + 1 ≤ lim := by simp only [lim]; omega
  rcases A.val with ⟨rfl, rfl⟩ | ⟨b, hb, rfl, hr⟩
  · refine ⟨.slice (some ⟨(h ++ [AObj.row [Value.string s] true]).length, 0, some 1⟩) 1 2, (h ++ [AObj.row [Value.string s] true]) ++ [AObj.row [Value.string s] true], ?_, ⟨?_, ?_, ?_⟩, ?_, ?_⟩
    · simp only [aappend, ti22, elemsLen, ti9, loadElems, if_true, hnew]
      have e1 : decide (0 + 1 ≤ lim) = true := by decide
      simp only [e1, limBytes]
      rfl
    · have := A.le; simp; omega
    · intro j hj
      have := A.le
      rw [List.getElem?_append_left (by simp; omega), List.getElem?_append_left (by omega)]
      exact A.old j hj
    · refine Or.inr ⟨(h ++ [AObj.row [Value.string s] true]).length, by have := A.le; simp; omega, rfl, ?_⟩
      rw [List.getElem?_append_right (Nat.le_refl _)]; simp [strs]
    · simp
    · intro j _ hj
      rw [List.getElem?_append_left (by simp; omega), List.getElem?_append_left (by omega)]
  · have hbl : b < h.length := lt_of_get hr
    have hr' : (h ++ [AObj.row [Value.string s] true])[b]? = some (.row (strs L) true) := by rw [List.getElem?_append_left hbl]; exact hr
    have hold : loadN (h ++ [AObj.row [Value.string s] true]) b 0 (L.length * 1) = some (strs L) := by
      simp only [loadN, cells?, hr', strs_length]
      rw [if_pos (by omega)]; simp [List.take_of_length_le, strs_length]
    refine ⟨.slice (some ⟨(h ++ [AObj.row [Value.string s] true]).length, 0, some 1⟩) (L.length + 1) (L.length + 1 + 1), (h ++ [AObj.row [Value.string s] true]).set b AObj.dead ++ [AObj.row (strs L ++ [Value.string s]) true], ?_, ⟨?_, ?_, ?_⟩, ?_, ?_⟩
    · simp only [aappend, ti22, elemsLen, ti9, loadElems, if_true, hnew, hold, hr']
      have e1 : decide (L.length + 1 ≤ lim) = true := by simp [hlim]
      simp [e1, limBytes, isCell]
    · have := A.le; simp; omega
    · intro j hj
      have := A.le
      rw [List.getElem?_append_left (by simp; omega), List.getElem?_set_ne (by omega), List.getElem?_append_left (by omega)]
      exact A.old j hj
    · refine Or.inr ⟨(h ++ [AObj.row [Value.string s] true]).length, by have := A.le; simp; omega, by simp, ?_⟩
      rw [List.getElem?_append_right (by simp)]; simp [strs]
    · simp; omega
    · intro j hn hj
      have hne : b ≠ j := by intro e; subst e; exact hn _ hr
      rw [List.getElem?_append_left (by simp; omega), List.getElem?_set_ne hne, List.getElem?_append_left (by omega)]
end Go.Proofs.YtpbmpdocgplhpaaDoor
