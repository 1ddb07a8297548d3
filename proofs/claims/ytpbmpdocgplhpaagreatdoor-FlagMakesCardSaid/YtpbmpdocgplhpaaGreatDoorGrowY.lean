/-
  The range over the words in flag.Grow.
-/
import Derived.Test.YtpbmpdocgplhpaaGreatDoorGrowK
import Derived.Test.YtpbmpdocgplhpaaGreatDoorMD
import Derived.Test.YtpbmpdocgplhpaaGreatDoorMI
import Derived.Test.YtpbmpdocgplhpaaGreatDoorClPl
import Derived.Test.YtpbmpdocgplhpaaGreatDoorVc13
set_option linter.unusedSimpArgs false
set_option linter.unusedVariables false
set_option maxRecDepth 100000
namespace Go.Proofs.YtpbmpdocgplhpaaGreatDoor
open Go Go.AM

/-- One word more, if it is new and nothing clashes. -/
def growStep (out : List ByteArray) (w : List UInt8) : List ByteArray := bif !(isIn (gB w) out) && freeF (out ++ [gB w]) then out ++ [gB w] else out
def growF (C : List ByteArray) (L : List (List UInt8)) : List ByteArray := L.foldl growStep C
/-- A list of strings in a row of its own. -/
def OwnRow (B0 l oc : Nat) (h : AHeap) (v : Value) (out : List ByteArray) : Prop :=
  (out = [] ∧ v = .slice none 0 0) ∨ ∃ b, B0 ≤ b ∧ b ≠ l ∧ b ≠ oc ∧ v = .slice (some ⟨b, 0, some 1⟩) out.length (out.length + 1) ∧ h[b]? = some (.row (strs out) true)
theorem OwnRow.strs {B0 l oc : Nat} {h : AHeap} {v : Value} {out : List ByteArray} (o : OwnRow B0 l oc h v out) : ∃ a k, v = .slice a out.length k ∧ Strs h a out := by
  rcases o with ⟨rfl, rfl⟩ | ⟨b, _, _, _, rfl, hb⟩
  · exact ⟨none, 0, rfl, Or.inl rfl, fun i hi => by simp at hi⟩
  · exact ⟨_, _, rfl, Or.inr ⟨b, 0, rfl⟩, fun i hi => ⟨b, 0, _, true, rfl, hb, by rw [Nat.zero_add]; exact strs_get (List.getElem?_eq_getElem hi)⟩⟩
theorem OwnRow.keep {B0 l oc : Nat} {h h' : AHeap} {v : Value} {out : List ByteArray} (o : OwnRow B0 l oc h v out) (hk : ∀ b, b ≠ l → b ≠ oc → (∃ cs, h[b]? = some (.row cs true)) → h'[b]? = h[b]?) : OwnRow B0 l oc h' v out := by
  rcases o with o | ⟨b, h0, h1, h2, rfl, hb⟩
  · exact Or.inl o
  · exact Or.inr ⟨b, h0, h1, h2, rfl, (hk b h1 h2 ⟨_, hb⟩).trans hb⟩
/-- Between two rounds. -/
structure GOuts (B0 l oc n : Nat) (ts : List Value) (ps : List Tmp) (sa bd : Code) (C : List ByteArray) (L : List (List UInt8)) (h : AHeap) : Prop where
  lp : h[l]? = some (.loop .ready none ts ps sa bd)
  none0 : h[0]? = some noneRow
  out : ∃ v, h[oc]? = some (.row [v] true) ∧ OwnRow B0 l oc h v (growF C L)
  sz : ∀ x ∈ growF C L, x.size = n
theorem GOuts.sit {B0 l oc n : Nat} {ts : List Value} {ps : List Tmp} {sa bd : Code} {C : List ByteArray} {L : List (List UInt8)} {h h' : AHeap} (o : GOuts B0 l oc n ts ps sa bd C L h) (S : Sit h h') : GOuts B0 l oc n ts ps sa bd C L h' := by
  obtain ⟨v, hv, A⟩ := o.out
  refine ⟨?_, ?_, ⟨v, ?_, A.keep (fun b _ _ ⟨cs, hb⟩ => S.row b (lt_of_get hb) (by intro s p; rw [hb]; simp))⟩, o.sz⟩
  · rw [S.row l (lt_of_get o.lp) (by intro s p; rw [o.lp]; simp)]; exact o.lp
  · rw [S.row 0 (lt_of_get o.none0) (by intro s p; rw [o.none0]; simp [noneRow])]; exact o.none0
  · rw [S.row oc (lt_of_get hv) (by intro s p; rw [hv]; simp)]; exact hv

structure GrowX (X : Ext) : Prop where
  kp : ExtKp X
  x67 : X 113 = none
  x68 : X 119 = none
  x80 : X 161 = none
  x59 : X 79 = none

end Go.Proofs.YtpbmpdocgplhpaaGreatDoor
