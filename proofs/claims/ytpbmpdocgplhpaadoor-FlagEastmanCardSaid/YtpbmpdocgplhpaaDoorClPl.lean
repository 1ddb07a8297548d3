/-
  A clash found, and the reference's Free and IsClash: plain.
-/
import Derived.Test.YtpbmpdocgplhpaaDoorFree
import Derived.Test.YtpbmpdocgplhpaaDoorIsCl
set_option linter.unusedSimpArgs false
set_option linter.unusedVariables false
set_option maxRecDepth 100000
namespace Go.Proofs.YtpbmpdocgplhpaaDoor
open Go Go.AM

theorem ba_eq (a b : ByteArray) : a = b ↔ a.data.toList = b.data.toList := ⟨fun h => h ▸ rfl, list_inj⟩
theorem win_iff {u v x : ByteArray} {n a : Nat} (hu : u.size = n) (hv : v.size = n) (hx : x.size = n) (h1 : 1 ≤ a) (h2 : a < n) :
    clWin u v a = x ↔ (seq (u.extract (u.size - (n - a)) u.size) (x.extract 0 (n - a)) = true ∧ seq (v.extract 0 (v.size - (n - a))) (x.extract (n - a) x.size) = true) := by
  rw [seq_iff, seq_iff, ba_eq, ba_eq, ba_eq]
  unfold clWin
  simp only [extract_list]
  rw [hu, hv, hx]
  have lu : u.data.toList.length = n := by rw [← Lib.size_eq]; exact hu
  have lv : v.data.toList.length = n := by rw [← Lib.size_eq]; exact hv
  have lx : x.data.toList.length = n := by rw [← Lib.size_eq]; exact hx
  rw [ByteArray.data_append, Array.toList_append]
  generalize u.data.toList = U at lu
  generalize v.data.toList = V at lv
  generalize x.data.toList = Y at lx
  have e1 : n - (n - a) = a := by omega
  rw [e1]
  have e2 : (U ++ V).take (a + n) = U ++ V.take a := by
    rw [List.take_append, List.take_of_length_le (by omega), lu, show a + n - n = a by omega]
  have e3 : U.take n = U := List.take_of_length_le (by omega)
  have e4 : Y.take n = Y := List.take_of_length_le (by omega)
  rw [e2, List.drop_append_of_le_length (by omega), e3, e4, List.drop_zero, List.drop_zero]
  constructor
  · intro h
    rw [← h]
    refine ⟨?_, ?_⟩
    · rw [List.take_left' (by rw [List.length_drop]; omega)]
    · rw [List.drop_left' (by rw [List.length_drop]; omega)]
  · rintro ⟨h1, h2⟩
    rw [h1, h2, List.take_append_drop]

theorem free_false {L : List ByteArray} {n : Nat} (hw : ∀ w ∈ L, w.size = n) : freeF L = false ↔ ∃ u v x a, u ∈ L ∧ v ∈ L ∧ x ∈ L ∧ 1 ≤ a ∧ a < n ∧ clWin u v a = x := by
  unfold freeF
  rw [List.all_eq_false]
  constructor
  · rintro ⟨x, hx, h⟩
    unfold freeWord at h
    rw [Bool.not_eq_true, List.all_eq_false] at h
    obtain ⟨p, hp, h⟩ := h
    have hxn := hw x hx
    rw [List.mem_range'_1] at hp
    rw [Bool.not_eq_true, Bool.not_eq_false', Bool.and_eq_true] at h
    obtain ⟨he, hb⟩ := h
    unfold enAt at he
    unfold beAt at hb
    rw [List.any_eq_true] at he hb
    obtain ⟨u, hu, he⟩ := he
    obtain ⟨v, hv, hb⟩ := hb
    have hnp : n - (n - p) = p := by omega
    refine ⟨u, v, x, n - p, hu, hv, hx, by omega, by omega, ?_⟩
    rw [win_iff (hw u hu) (hw v hv) hxn (by omega) (by omega), hnp]
    exact ⟨he, hb⟩
  · rintro ⟨u, v, x, a, hu, hv, hx, h1, h2, h⟩
    have hxn := hw x hx
    rw [win_iff (hw u hu) (hw v hv) hxn h1 h2] at h
    refine ⟨x, hx, ?_⟩
    unfold freeWord
    rw [Bool.not_eq_true, List.all_eq_false]
    refine ⟨n - a, by rw [List.mem_range'_1]; omega, ?_⟩
    rw [Bool.not_eq_true, Bool.not_eq_false', Bool.and_eq_true]
    unfold enAt beAt
    rw [List.any_eq_true, List.any_eq_true]
    exact ⟨⟨u, hu, h.1⟩, ⟨v, hv, h.2⟩⟩
theorem clR_none {L : List ByteArray} {n : Nat} (hw : ∀ w ∈ L, w.size = n) (h : ClashR L none) : freeF L = true := by
  cases hf : freeF L with
  | true => rfl
  | false =>
    obtain ⟨u, v, x, a, hu, hv, hx, h1, h2, e⟩ := (free_false hw).1 hf
    obtain ⟨i, hi, ei⟩ := List.mem_iff_getElem.1 hu
    obtain ⟨j, hj, ej⟩ := List.mem_iff_getElem.1 hv
    have := h i j a u v (by rw [List.getElem?_eq_getElem hi, ei]) (by rw [List.getElem?_eq_getElem hj, ej]) h1 (by rw [hw u hu]; exact h2)
    rw [e] at this
    exact absurd hx this
theorem clR_some {L : List ByteArray} {n : Nat} (hw : ∀ w ∈ L, w.size = n) {i j w : Nat} (h : ClashR L (some (i, j, w))) : freeF L = false ∧ isClF L i j w = true := by
  obtain ⟨u, v, x, a, hi, hj, hx, h1, h2, e⟩ := h
  obtain ⟨li, ei⟩ := List.getElem?_eq_some_iff.1 hi
  obtain ⟨lj, ej⟩ := List.getElem?_eq_some_iff.1 hj
  obtain ⟨lw, ew⟩ := List.getElem?_eq_some_iff.1 hx
  have mu : u ∈ L := by rw [← ei]; exact List.getElem_mem _
  have mv : v ∈ L := by rw [← ej]; exact List.getElem_mem _
  have mx : x ∈ L := by rw [← ew]; exact List.getElem_mem _
  refine ⟨(free_false hw).2 ⟨u, v, x, a, mu, mv, mx, h1, by rw [← hw u mu]; exact h2, e.symm⟩, ?_⟩
  unfold isClF in3
  rw [decide_eq_true (by omega), Bool.true_and, Int.toNat_natCast, Int.toNat_natCast, Int.toNat_natCast, getD_at L i li, getD_at L j lj, getD_at L w lw, ei, ej, ew]
  rw [clF_iff]
  refine ⟨a, h1, h2, ?_⟩
  rw [hw x mx, ← hw u mu]; exact e.symm
/-- What Clash answers: d, and whether; what the reference says of it. -/
theorem trio_facts {L : List ByteArray} {n : Nat} (hw : ∀ w ∈ L, w.size = n) (r : Option (Nat × Nat × Nat)) (h : ClashR L r) : freeF L = !r.isSome := by
  cases r with
  | none => exact clR_none hw h
  | some t => obtain ⟨i, j, w⟩ := t; exact (clR_some hw h).1
end Go.Proofs.YtpbmpdocgplhpaaDoor
