/-
  FlagWhole's plain law: a comma-free code has whole words only, of each ring at most one, and at most as many as there are rings.
-/
import Derived.Test.YtpbmpdocgplhpaaDoorMH
import Derived.Test.YtpbmpdocgplhpaaDoorGolPl
import Derived.Test.YtpbmpdocgplhpaaDoorTnPl
set_option linter.unusedSimpArgs false
set_option linter.unusedVariables false
set_option maxRecDepth 100000
namespace Go.Proofs.YtpbmpdocgplhpaaDoor
open Go Go.AM

def wOK (l : List UInt8) : Bool :=
  (wholeL l || (List.range l.length).any fun a => Nat.ble 1 a && eqL (turnL l a) l) && ((turnsL (firstL l)).any fun t => eqL t l) && ((turnsL (firstL l)).all fun t => (turnsL l).any fun x => eqL x t) &&
    (!wholeL l || ringOK (firstL l)) && ((turnsL l).any fun t => eqL t (firstL l))
theorem w_all : ((List.range 5).all fun n => (wordsL 4 (n + 1)).all wOK) = true := by kernel_rfl
theorem eqL_iff {a b : List UInt8} : eqL a b = true ↔ a = b := by unfold eqL; exact beq_iff_eq
structure WFacts (l : List UInt8) : Prop where
  turn : wholeL l = false → ∃ a, 1 ≤ a ∧ a < l.length ∧ turnL l a = l
  back : l ∈ turnsL (firstL l)
  sub : ∀ t ∈ turnsL (firstL l), t ∈ turnsL l
  ring : wholeL l = true → ringOK (firstL l) = true
  first : firstL l ∈ turnsL l
theorem w_facts {l : List UInt8} (h : wOK l = true) : WFacts l := by
  unfold wOK at h
  simp only [Bool.and_eq_true] at h
  obtain ⟨⟨⟨⟨h1, h2⟩, h3⟩, h4⟩, h5⟩ := h
  refine ⟨fun hw => ?_, ?_, fun t ht => ?_, fun hw => ?_, ?_⟩
  · rw [hw, Bool.false_or, List.any_eq_true] at h1
    obtain ⟨a, ha, hb⟩ := h1
    simp only [Bool.and_eq_true] at hb
    exact ⟨a, Nat.le_of_ble_eq_true hb.1, by simpa using ha, eqL_iff.1 hb.2⟩
  · obtain ⟨t, ht, he⟩ := List.any_eq_true.1 h2
    rw [eqL_iff.1 he] at ht; exact ht
  · obtain ⟨x, hx, he⟩ := List.any_eq_true.1 (List.all_eq_true.1 h3 t ht)
    rw [← eqL_iff.1 he]; exact hx
  · rw [hw] at h4; simpa using h4
  · obtain ⟨t, ht, he⟩ := List.any_eq_true.1 h5
    rw [← eqL_iff.1 he]; exact ht
theorem w_word {s : ByteArray} (h : isWordF s = true) : WFacts s.data.toList := by
  obtain ⟨h1, h2, h3⟩ := isWord_iff.1 h
  have ha := w_all
  rw [List.all_eq_true] at ha
  have ha := ha (s.size - 1) (by simp; omega)
  rw [List.all_eq_true] at ha
  have := word_in h1
  rw [show s.size = s.size - 1 + 1 by omega] at this
  exact w_facts (ha _ this)

theorem win_turn (l : List UInt8) (a : Nat) (ha : a ≤ l.length) : clWin (gB l) (gB l) a = gB (turnL l a) := by
  unfold clWin turnL
  rw [gB_append, gB_extract, gB_size]
  congr 1
  rw [show a + l.length = l.length + a by omega, List.take_length_add_append, List.drop_append_of_le_length ha]
theorem turn_in {l t : List UInt8} (h : t ∈ turnsL l) : ∃ a, a < l.length ∧ t = turnL l a := by
  simp only [turnsL, List.mem_map, List.mem_range] at h
  obtain ⟨a, h1, h2⟩ := h
  exact ⟨a, h1, h2.symm⟩
theorem turn_zero (l : List UInt8) : turnL l 0 = l := by simp [turnL]

/-- In a comma-free code no word is another turn of a word. -/
theorem no_turn {L : List ByteArray} (hC : ClashR L none) {u v : ByteArray} (hu : u ∈ L) (hv : v ∈ L) {a : Nat} (h1 : 1 ≤ a) (h2 : a < u.data.toList.length) (he : v.data.toList = turnL u.data.toList a) : False := by
  obtain ⟨i, hi, rfl⟩ := List.getElem_of_mem hu
  have hsz : (L[i]).data.toList.length = L[i].size := (Lib.size_eq _).symm
  have := hC i i a L[i] L[i] (List.getElem?_eq_getElem hi) (List.getElem?_eq_getElem hi) h1 (by omega)
  apply this
  have e := win_turn (L[i]).data.toList a (by omega)
  rw [gB_of] at e
  rw [e, ← he, gB_of]; exact hv
theorem whole_of {L : List ByteArray} (hC : ClashR L none) {w : ByteArray} (hw : w ∈ L) (hword : isWordF w = true) : wholeF w = true := by
  have F := w_word hword
  rw [← gB_of w, whole_gB]
  cases h : wholeL w.data.toList with
  | true => rfl
  | false =>
    obtain ⟨a, h1, h2, h3⟩ := F.turn h
    exact (no_turn hC hw hw h1 h2 h3.symm).elim
theorem first_ne {L : List ByteArray} (hC : ClashR L none) {u v : ByteArray} (hu : u ∈ L) (hv : v ∈ L) (wu : isWordF u = true) (wv : isWordF v = true) (hne : u ≠ v) : firstF u ≠ firstF v := by
  intro he
  have Fu := w_word wu
  have Fv := w_word wv
  rw [← gB_of u, ← gB_of v, first_gB, first_gB] at he
  have he := gB_inj he
  have hb := Fv.back
  rw [← he] at hb
  obtain ⟨a, h1, h2⟩ := turn_in (Fu.sub _ hb)
  by_cases h0 : a = 0
  · subst h0
    rw [turn_zero] at h2
    exact hne (list_inj h2).symm
  · exact no_turn hC hu hv (by omega) h1 h2

theorem pigeon {α : Type} [BEq α] [LawfulBEq α] : ∀ (A B : List α), A.Nodup → (∀ x ∈ A, x ∈ B) → A.length ≤ B.length := by
  intro A
  induction A with
  | nil => intro B _ _; simp
  | cons a A ih =>
    intro B hn hs
    obtain ⟨h1, h2⟩ := List.nodup_cons.1 hn
    have ha := hs a (by simp)
    have := ih (B.erase a) h2 (fun x hx => (List.mem_erase_of_ne (by intro e; subst e; exact h1 hx)).2 (hs x (by simp [hx])))
    rw [List.length_erase_of_mem ha] at this
    have hB : 0 < B.length := List.length_pos_of_mem ha
    simp only [List.length_cons]
    omega
theorem turn_mem {l : List UInt8} {a : Nat} {c : UInt8} (h : c ∈ turnL l a) : c ∈ l := by
  unfold turnL at h
  rcases List.mem_append.1 h with h | h
  · exact List.mem_of_mem_drop h
  · exact List.mem_of_mem_take h
theorem turn_length (l : List UInt8) (a : Nat) : (turnL l a).length = l.length := by
  unfold turnL; simp only [List.length_append, List.length_drop, List.length_take]; omega
theorem ring_of {w : ByteArray} {k n : Nat} (hword : isWordF w = true) (ho : overF k w = true) (hn : w.size = n) (hw : wholeF w = true) : firstL w.data.toList ∈ ringsL k n := by
  have F := w_word hword
  rw [← gB_of w, whole_gB] at hw
  obtain ⟨a, h1, h2⟩ := turn_in F.first
  unfold ringsL
  rw [List.mem_filter]
  refine ⟨?_, by have := F.ring hw; unfold ringOK at this; exact this⟩
  have hall : ∀ c ∈ firstL w.data.toList, c ∈ lettersL k := by
    intro c hc
    rw [h2] at hc
    have := turn_mem hc
    unfold overF at ho
    have := List.all_eq_true.1 ho c this
    simpa using this
  have hlen : (firstL w.data.toList).length = n := by rw [h2, turn_length, ← Lib.size_eq]; exact hn
  have := grow_in (lettersL k) n [] (firstL w.data.toList) hlen hall
  simpa [wordsL] using this
theorem rising_nodup {L : List ByteArray} (h : Rising L) : L.Nodup := by
  refine List.Pairwise.imp ?_ h
  intro a b hab e
  subst e
  rw [lt_irrefl] at hab; simp at hab
theorem count_nd {L : List ByteArray} {k n : Nat} (hC : ClashR L none) (hnd : L.Nodup) (hw : ∀ w ∈ L, w.size = n ∧ overF k w = true) (hk : k ≤ 4) (hn1 : 1 ≤ n) (hn : n ≤ 5) : L.length ≤ (ringsL k n).length := by
  have hword : ∀ w ∈ L, isWordF w = true := by
    intro w h
    obtain ⟨h1, h2⟩ := hw w h
    refine isWord_iff.2 ⟨?_, by omega, by omega⟩
    rw [overF_iff] at h2 ⊢
    intro i hi
    have := h2 i hi
    unfold lettersL at this ⊢
    have h3 := List.mem_of_mem_take this
    simpa using h3
  have h1 := pigeon (L.map fun w => firstL w.data.toList) (ringsL k n) ?_ ?_
  · simpa using h1
  · unfold List.Nodup at hnd ⊢
    rw [List.pairwise_map]
    refine List.Pairwise.imp_of_mem ?_ hnd
    intro u v hu hv hne he
    apply first_ne hC hu hv (hword u hu) (hword v hv) hne
    rw [← gB_of u, ← gB_of v, first_gB, first_gB, he]
  · intro x hx
    simp only [List.mem_map] at hx
    obtain ⟨w, hw1, rfl⟩ := hx
    exact ring_of (hword w hw1) (hw w hw1).2 (hw w hw1).1 (whole_of hC hw1 (hword w hw1))
theorem count_le {L : List ByteArray} {k n : Nat} (hC : ClashR L none) (hR : Rising L) (hw : ∀ w ∈ L, w.size = n ∧ overF k w = true) (hk : k ≤ 4) (hn1 : 1 ≤ n) (hn : n ≤ 5) : L.length ≤ (ringsL k n).length :=
  count_nd hC (rising_nodup hR) hw hk hn1 hn
theorem over_word {w : ByteArray} {k n : Nat} (h : w.size = n ∧ overF k w = true) (hn1 : 1 ≤ n) (hn : n ≤ 5) : isWordF w = true := by
  obtain ⟨h1, h2⟩ := h
  refine isWord_iff.2 ⟨?_, by omega, by omega⟩
  rw [overF_iff] at h2 ⊢
  intro i hi
  have := h2 i hi
  unfold lettersL at this ⊢
  have h3 := List.mem_of_mem_take this
  simpa using h3
end Go.Proofs.YtpbmpdocgplhpaaDoor
