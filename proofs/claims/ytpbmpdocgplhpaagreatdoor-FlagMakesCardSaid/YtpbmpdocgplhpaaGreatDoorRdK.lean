/-
  What the walks of the laws about streams share.
-/
import Derived.Test.YtpbmpdocgplhpaaGreatDoorMI
import Derived.Test.YtpbmpdocgplhpaaGreatDoorAx2
set_option linter.unusedSimpArgs false
set_option linter.unusedVariables false
set_option maxRecDepth 100000
namespace Go.Proofs.YtpbmpdocgplhpaaGreatDoor
open Go Go.AM

theorem rem_ok {x n : Nat} (hn : 1 ≤ n) : abin Tryz.prog .rem 3 (I x) (I n) = some (I ((x % n : Nat) : Int)) := by
  have e : Int.tmod (x : Int) n = ((x % n : Nat) : Int) := by rw [Int.tmod_eq_emod_of_nonneg (by omega)]; rfl
  rw [← e]
  simp [abin, aint]; omega
/-- A slice of numbers, to be read. -/
def IntsAt (h : AHeap) (a : Option Addr) (L : List Int) : Prop := ∀ i (hi : i < L.length), ∃ b, a = some ⟨b, 0, some 1⟩ ∧ h[b]? = some (.row (ints L) true)
theorem AccI.at {h0 h : AHeap} {v : Value} {L : List Int} (A : AccI h0 h v L) : ∃ a kk, v = .slice a L.length kk ∧ IntsAt h a L := by
  rcases A.val with ⟨rfl, rfl⟩ | ⟨b, hb, rfl, hr⟩
  · exact ⟨_, _, rfl, fun i hi => by simp at hi⟩
  · exact ⟨_, _, rfl, fun i hi => ⟨b, rfl, hr⟩⟩
theorem IntsAt.grow {h h' : AHeap} {a : Option Addr} {L : List Int} (x : IntsAt h a L) (g : Grew h h') : IntsAt h' a L := fun i hi => by
  obtain ⟨b, e, hb⟩ := x i hi
  exact ⟨b, e, g.at hb⟩
/-- A row of numbers that is but read. -/
def IntsIn (h : AHeap) (a : Option Addr) (Z : List Int) : Prop := (Z = [] ∨ ∃ b, a = some ⟨b, 0, some 1⟩ ∧ ∃ l, h[b]? = some (.row l false) ∧ ∀ i (hi : i < Z.length), l[i]? = some (.int .i64 Z[i]))
theorem IntsIn.grow {h h' : AHeap} {a : Option Addr} {Z : List Int} (x : IntsIn h a Z) (g : Grew h h') : IntsIn h' a Z := by
  rcases x with x | ⟨b, e, l, hb, hl⟩
  · exact Or.inl x
  · exact Or.inr ⟨b, e, l, g.at hb, hl⟩
end Go.Proofs.YtpbmpdocgplhpaaGreatDoor
