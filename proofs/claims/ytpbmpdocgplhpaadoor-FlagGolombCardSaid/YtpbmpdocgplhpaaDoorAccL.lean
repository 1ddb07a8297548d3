/-
  Lists of strings that grow by another list.
-/
import Derived.Test.YtpbmpdocgplhpaaDoorHas
set_option linter.unusedSimpArgs false
set_option linter.unusedVariables false
set_option maxRecDepth 100000
namespace Go.Proofs.YtpbmpdocgplhpaaDoor
open Go Go.AM

theorem Strs.load {h : AHeap} {a : Option Addr} {L : List ByteArray} (s : Strs h a L) (hne : L ≠ []) : ∃ b o, a = some ⟨b, o, some 1⟩ ∧ loadN h b o L.length = some (strs L) := by
  have h0 : 0 < L.length := List.length_pos_iff.2 hne
  obtain ⟨b, o, cs, own, rfl, hb, _⟩ := s.2 0 h0
  refine ⟨b, o, rfl, ?_⟩
  have hall : ∀ i (hi : i < L.length), cs[o + i]? = some (.string L[i]) := by
    intro i hi
    obtain ⟨b2, o2, cs2, own2, e, hb2, hc2⟩ := s.2 i hi
    simp only [Option.some.injEq, Addr.mk.injEq, and_true] at e
    obtain ⟨rfl, rfl⟩ := e
    rw [hb] at hb2; simp only [Option.some.injEq, AObj.row.injEq] at hb2
    rw [hb2.1]; exact hc2
  have hlen : o + L.length ≤ cs.length := by
    have := hall (L.length - 1) (by omega)
    by_cases hh : o + (L.length - 1) < cs.length
    · omega
    · rw [List.getElem?_eq_none (by omega)] at this; simp at this
  simp only [loadN, cells?, hb]
  rw [if_pos hlen]
  congr 1
  apply List.ext_getElem?
  intro i
  by_cases hi : i < L.length
  · rw [List.getElem?_take, if_pos hi, List.getElem?_drop, hall i hi]; simp [strs, hi]
  · rw [List.getElem?_eq_none (by simp; omega), List.getElem?_eq_none (by rw [strs_length]; omega)]

theorem Acc.appL {h0 h : AHeap} {v : Value} {L R : List ByteArray} (A : Acc h0 h v L) {a : Option Addr} {kk : Nat} (s : Strs h a R) (hL : L.length + R.length < 4294967295) :
    ∃ v' h', aappend Tryd.prog h 22 v (.slice a R.length kk) = some (v', h') ∧ Acc h0 h' v' (L ++ R) ∧ h.length ≤ h'.length := by
  by_cases hR : R = []
  · subst hR
    refine ⟨v, h, ?_, by simpa using A, Nat.le_refl _⟩
    rcases A.val with ⟨rfl, rfl⟩ | ⟨b, hb, rfl, hr⟩
    · simp [aappend, ti22, elemsLen, ti9]
    · simp [aappend, ti22, elemsLen, ti9]
  · obtain ⟨b2, o2, rfl, hload⟩ := s.load hR
    have hpos : 0 < R.length := List.length_pos_iff.2 hR
    have hm : ¬R.length = 0 := by omega
    have hload' : loadN h b2 o2 (R.length * 1) = some (strs R) := by simpa using hload
    have hcell : (strs R).all isCell = true := by simp [strs, isCell]
    have hlim0 : L.length + R.length ≤ lim := by simp only [lim]; omega
    have hlim : decide (L.length + R.length ≤ lim) = true := decide_eq_true hlim0
    rcases A.val with ⟨rfl, rfl⟩ | ⟨b, hb, rfl, hr⟩
    · refine ⟨.slice (some ⟨h.length, 0, some 1⟩) (0 + R.length) (0 + R.length + 1), h ++ [AObj.row (strs R) true], ?_, ⟨?_, ?_, ?_⟩, by simp⟩
      · simp only [List.length_nil] at hlim
        simp only [aappend, ti22, elemsLen, ti9, loadElems, if_true, hload', hm, if_false, hlim, limBytes]
        rfl
      · have := A.le; simp; omega
      · intro j hj; have := A.le; rw [List.getElem?_append_left (by omega)]; exact A.old j hj
      · exact Or.inr ⟨h.length, A.le, by simp, by simp⟩
    · have hold : loadN h b 0 (L.length * 1) = some (strs L) := by
        simp only [loadN, cells?, hr, strs_length]
        rw [if_pos (by omega)]; simp [List.take_of_length_le, strs_length]
      have hbl : b < h.length := lt_of_get hr
      refine ⟨.slice (some ⟨h.length, 0, some 1⟩) (L.length + R.length) (L.length + R.length + 1), h.set b AObj.dead ++ [AObj.row (strs L ++ strs R) true], ?_, ⟨?_, ?_, ?_⟩, by simp⟩
      · simp only [aappend, ti22, elemsLen, ti9, loadElems, if_true, hload', hm, if_false, hlim, limBytes, hold, hr]
        simp [hcell]
      · have := A.le; simp; omega
      · intro j hj; have := A.le
        rw [List.getElem?_append_left (by simp; omega), List.getElem?_set_ne (by omega)]; exact A.old j hj
      · refine Or.inr ⟨h.length, A.le, by simp, ?_⟩
        rw [List.getElem?_append_right (by simp)]; simp [strs]
end Go.Proofs.YtpbmpdocgplhpaaDoor
