/-
  The small insertion sort and the library's sort answer the same.
-/
import Derived.Test.YtpbmpdocgplhpaaGreatDoorSrtPl
set_option linter.unusedSimpArgs false
set_option linter.unusedVariables false
set_option maxRecDepth 100000
namespace Go.Proofs.YtpbmpdocgplhpaaGreatDoor
open Go Go.AM

theorem sink_parts : ∀ (j : Nat) (P : List ByteArray) (a : ByteArray) (S : List ByteArray), P.length = j →
    ∃ P1 P2, P = P1 ++ P2 ∧ sinkM ltS j (P ++ a :: S) = P1 ++ a :: (P2 ++ S) ∧ (∀ x ∈ P2, ltS a x = true) ∧ (P1 = [] ∨ ∃ P0 b, P1 = P0 ++ [b] ∧ ltS a b = false) := by
  intro j
  induction j with
  | zero =>
    intro P a S hP
    have : P = [] := List.eq_nil_of_length_eq_zero hP
    subst this
    exact ⟨[], [], rfl, rfl, by simp, Or.inl rfl⟩
  | succ j ih =>
    intro P a S hP
    obtain ⟨P', b, rfl⟩ : ∃ P' b, P = P' ++ [b] := by
      have hne : P ≠ [] := fun e => by rw [e] at hP; simp at hP
      exact ⟨P.dropLast, P.getLast hne, (List.dropLast_concat_getLast hne).symm⟩
    have hP' : P'.length = j := by simp at hP; exact hP
    have e1 : (P' ++ [b] ++ a :: S)[j + 1]? = some a := by
      rw [List.getElem?_append_right (by simp; omega)]; simp [hP']
    have e2 : (P' ++ [b] ++ a :: S)[j]? = some b := by
      rw [List.getElem?_append_left (by simp; omega), List.getElem?_append_right (by omega)]; simp [hP']
    simp only [sinkM, e1, e2]
    by_cases hlt : ltS a b = true
    · rw [if_pos hlt]
      have e3 : ((P' ++ [b] ++ a :: S).set (j + 1) b).set j a = P' ++ a :: (b :: S) := by
        apply List.ext_getElem?
        intro i
        by_cases h1 : i < j
        · rw [List.getElem?_set_ne (by omega), List.getElem?_set_ne (by omega), List.getElem?_append_left (by simp; omega), List.getElem?_append_left (by omega), List.getElem?_append_left (by omega)]
        · by_cases h2 : i = j
          · subst h2
            rw [List.getElem?_set_self (by simp; omega), List.getElem?_append_right (by omega)]; simp [hP']
          · by_cases h3 : i = j + 1
            · subst h3
              rw [List.getElem?_set_ne (by omega), List.getElem?_set_self (by simp; omega), List.getElem?_append_right (by omega)]; simp [hP']
            · rw [List.getElem?_set_ne (by omega), List.getElem?_set_ne (by omega), List.getElem?_append_right (by simp; omega), List.getElem?_append_right (by omega)]
              obtain ⟨m, rfl⟩ : ∃ m, i = j + 2 + m := ⟨i - (j + 2), by omega⟩
              have q1 : j + 2 + m - (P' ++ [b]).length = m + 1 := by simp; omega
              have q2 : j + 2 + m - P'.length = m + 2 := by omega
              rw [q1, q2]; rfl
      rw [e3]
      obtain ⟨P1, P2, q1, q2, q3, q4⟩ := ih P' a (b :: S) hP'
      refine ⟨P1, P2 ++ [b], by rw [q1, List.append_assoc], by rw [q2]; simp, fun x hx => ?_, q4⟩
      rcases List.mem_append.1 hx with hx | hx
      · exact q3 x hx
      · rw [List.mem_singleton.1 hx]; exact hlt
    · rw [if_neg hlt]
      exact ⟨P' ++ [b], [], by simp, by simp, by simp, Or.inr ⟨P', b, rfl, by simpa using hlt⟩⟩
/-- In order, with equals. -/
def Lvl (L : List ByteArray) : Prop := L.Pairwise fun x y => ltS y x = false
theorem lv_tr {a b c : ByteArray} (h1 : ltS b a = false) (h2 : ltS c b = false) : ltS c a = false := by
  have := le_tr a.data.toList b.data.toList c.data.toList (by rw [le_bl, Bool.not_eq_true']; exact h1) (by rw [le_bl, Bool.not_eq_true']; exact h2)
  rw [le_bl, Bool.not_eq_true'] at this
  exact this
theorem lt_as {a b : ByteArray} (h : ltS a b = true) : ltS b a = false := by
  rw [Bool.eq_false_iff]
  intro h2
  have := lt_trans h h2
  rw [lt_irrefl] at this; simp at this
theorem sink_lvl {P : List ByteArray} {a : ByteArray} {S : List ByteArray} (hP : Lvl P) :
    ∃ R, sinkM ltS P.length (P ++ a :: S) = R ++ S ∧ R.length = P.length + 1 ∧ Lvl R ∧ R.Perm (P ++ [a]) := by
  obtain ⟨P1, P2, rfl, q2, q3, q4⟩ := sink_parts P.length P a S rfl
  refine ⟨P1 ++ a :: P2, by rw [q2]; simp, by simp; omega, ?_, ?_⟩
  · unfold Lvl at hP ⊢
    rw [List.pairwise_append] at hP ⊢
    obtain ⟨h1, h2, h3⟩ := hP
    refine ⟨h1, ?_, fun x hx y hy => ?_⟩
    · rw [List.pairwise_cons]
      exact ⟨fun x hx => lt_as (q3 x hx), h2⟩
    · rcases List.mem_cons.1 hy with rfl | hy
      · rcases q4 with rfl | ⟨P0, b, rfl, hb⟩
        · simp at hx
        · rcases List.mem_append.1 hx with hx | hx
          · rw [List.pairwise_append] at h1
            exact lv_tr (h1.2.2 x hx b (List.mem_singleton.2 rfl)) hb
          · rw [List.mem_singleton.1 hx]; exact hb
      · exact h3 x hx y hy
  · have : (P1 ++ a :: P2).Perm (a :: (P1 ++ P2)) := List.perm_middle
    exact this.trans (List.perm_append_singleton a (P1 ++ P2)).symm
theorem isort_lvl : ∀ (t i : Nat) (L : List ByteArray), i + t = L.length → Lvl (L.take i) → Lvl (isortM ltS t i L) ∧ (isortM ltS t i L).Perm L := by
  intro t
  induction t with
  | zero =>
    intro i L hi h
    rw [List.take_of_length_le (by omega)] at h
    exact ⟨h, List.Perm.refl _⟩
  | succ t ih =>
    intro i L hi h
    have hlt : i < L.length := by omega
    have hL : L = L.take i ++ L[i] :: L.drop (i + 1) := by
      rw [← List.drop_eq_getElem_cons hlt, List.take_append_drop]
    have hpl : (L.take i).length = i := by simp; omega
    obtain ⟨R, e, hRl, hR, hp⟩ := sink_lvl (a := L[i]) (S := L.drop (i + 1)) h
    rw [hpl, ← hL] at e
    simp only [isortM]
    rw [e]
    obtain ⟨k1, k2⟩ := ih (i + 1) (R ++ L.drop (i + 1)) (by simp; omega) (by
      rw [List.take_append_of_le_length (by omega), List.take_of_length_le (by omega)]; exact hR)
    refine ⟨k1, k2.trans ?_⟩
    have h3 : (R ++ L.drop (i + 1)).Perm ((L.take i ++ [L[i]]) ++ L.drop (i + 1)) := hp.append_right _
    refine h3.trans ?_
    have : (L.take i ++ [L[i]]) ++ L.drop (i + 1) = L := by
      rw [List.append_assoc]; exact hL.symm
    rw [this]
theorem sortM_lvl (L : List ByteArray) : Lvl (sortM ltS L) ∧ (sortM ltS L).Perm L := by
  unfold sortM
  cases L with
  | nil => exact ⟨List.Pairwise.nil, List.Perm.refl _⟩
  | cons a L =>
    refine isort_lvl ((a :: L).length - 1) 1 (a :: L) (by simp; omega) ?_
    simp [Lvl]
theorem sortB_lvl (L : List ByteArray) : Lvl (sortB L) := by
  have hs := List.pairwise_mergeSort (le := fun x y : List UInt8 => decide (x ≤ y)) le_tr le_to (L.map fun s => s.data.toList)
  unfold Lvl sortB
  rw [List.pairwise_map]
  refine hs.imp fun {a b} h => ?_
  rw [le_bl, Bool.not_eq_true'] at h
  exact h
theorem lvl_unique : ∀ {A B : List ByteArray}, Lvl A → Lvl B → A.Perm B → A = B := by
  intro A
  induction A with
  | nil => intro B _ _ h; exact (List.Perm.nil_eq h)
  | cons a A ih =>
    intro B hA hB h
    cases B with
    | nil => exact absurd h.symm.nil_eq (by simp)
    | cons b B =>
      unfold Lvl at hA hB
      rw [List.pairwise_cons] at hA hB
      have hab : a = b := by
        have ha : a ∈ b :: B := h.mem_iff.1 (List.mem_cons_self ..)
        have hb : b ∈ a :: A := h.mem_iff.2 (List.mem_cons_self ..)
        rcases List.mem_cons.1 ha with e | ha
        · exact e
        · rcases List.mem_cons.1 hb with e | hb
          · exact e.symm
          · have h1 := hB.1 a ha
            have h2 := hA.1 b hb
            by_cases e : a = b
            · exact e
            · have := lt_total h2 (fun e2 => e e2.symm)
              rw [h1] at this; simp at this
      subst hab
      rw [ih hA.2 hB.2 (List.Perm.cons_inv h)]
theorem sortB_eq (L : List ByteArray) : sortB L = sortM ltS L :=
  lvl_unique (sortB_lvl L) (sortM_lvl L).1 ((sortB_perm L).trans (sortM_lvl L).2.symm)
end Go.Proofs.YtpbmpdocgplhpaaGreatDoor
