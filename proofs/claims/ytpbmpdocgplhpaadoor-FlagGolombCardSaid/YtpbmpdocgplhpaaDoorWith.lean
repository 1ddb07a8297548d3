/-
  The reference's With: a word put into a rising list.
-/
import Derived.Test.YtpbmpdocgplhpaaDoorAccL
set_option linter.unusedSimpArgs false
set_option linter.unusedVariables false
set_option maxRecDepth 100000
namespace Go.Proofs.YtpbmpdocgplhpaaDoor
open Go Go.AM

def ltS (a b : ByteArray) : Bool := Op.bytesLess a.data.toList b.data.toList
/-- How many words stand before s. -/
def before (L : List ByteArray) (s : ByteArray) : Nat := (L.takeWhile fun x => ltS x s).length
theorem before_le (L : List ByteArray) (s : ByteArray) : before L s ≤ L.length := by unfold before; exact (List.takeWhile_sublist _).length_le

/-- From the loop's head at i on: the loop ends at i + before of the rest; Q is what then follows. -/
theorem slice_upto {a : Option Addr} {h : AHeap} {L : List ByteArray} (s : Strs h a L) (kk k : Nat) (hk : k ≤ L.length) :
    ∃ a' kk', aslice Tryd.prog 22 (.slice a L.length kk) none (some (I k)) none = some (.slice a' (L.take k).length kk') ∧ Strs h a' (L.take k) := by
  by_cases hne : L = []
  · subst hne
    have : k = 0 := by simpa using hk
    subst this
    cases a with
    | none => exact ⟨none, 0, by simp [aslice, ti22, ti9, abound, asIdx], Or.inl rfl, by intro i hi; simp at hi⟩
    | some ad =>
      rcases s.1 with e | ⟨b, o, e⟩
      · simp at e
      · simp only [Option.some.injEq] at e; subst e
        exact ⟨some ⟨b, o, some 1⟩, _, by simp [aslice, ti22, ti9, abound, asIdx]; rfl, Or.inr ⟨b, o, rfl⟩, by intro i hi; simp at hi⟩
  · obtain ⟨b, o, rfl, _⟩ := s.load hne
    refine ⟨some ⟨b, o, some 1⟩, _, by simp only [aslice, ti22, ti9, abound, asIdx]; rw [if_pos ⟨by omega, by omega⟩]; simp [List.length_take, Nat.min_eq_left hk]; rfl, Or.inr ⟨b, o, rfl⟩, ?_⟩
    intro i hi
    simp at hi
    obtain ⟨b2, o2, cs, own, e, h1, h2⟩ := s.2 i (by omega)
    exact ⟨b2, o2, cs, own, e, h1, by simpa using h2⟩
theorem slice_on {a : Option Addr} {h : AHeap} {L : List ByteArray} (s : Strs h a L) (kk k : Nat) (hk : k ≤ L.length) :
    ∃ a' kk', aslice Tryd.prog 22 (.slice a L.length kk) (some (I k)) none none = some (.slice a' (L.drop k).length kk') ∧ Strs h a' (L.drop k) := by
  rcases s.1 with rfl | ⟨b, o, rfl⟩
  · have : L = [] := by
      by_cases hne : L = []
      · exact hne
      · obtain ⟨b, o, e, _⟩ := s.load hne; simp at e
    subst this
    have : k = 0 := by simpa using hk
    subst this
    exact ⟨none, 0, by simp [aslice, ti22, ti9, abound, asIdx], Or.inl rfl, by intro i hi; simp at hi⟩
  · refine ⟨some ⟨b, o + k * 1, some 1⟩, _, by simp only [aslice, ti22, ti9, abound, asIdx]; rw [if_pos ⟨by omega, by omega⟩]; simp; rfl, Or.inr ⟨b, o + k * 1, rfl⟩, ?_⟩
    intro i hi
    simp at hi
    obtain ⟨b2, o2, cs, own, e, h1, h2⟩ := s.2 (k + i) (by omega)
    simp only [Option.some.injEq, Addr.mk.injEq, and_true] at e
    obtain ⟨rfl, rfl⟩ := e
    refine ⟨b, o + k * 1, cs, own, rfl, h1, ?_⟩
    rw [show o + k * 1 + i = o + (k + i) by omega]
    simpa using h2
end Go.Proofs.YtpbmpdocgplhpaaDoor
