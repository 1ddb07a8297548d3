/-
  What the library's sort makes of different words: they rise.
-/
import Derived.Test.YtpbmpdocgplhpaaDoorSortC
import Derived.Test.YtpbmpdocgplhpaaDoorGrowPl
import Derived.Test.YtpbmpdocgplhpaaDoorMH
set_option linter.unusedSimpArgs false
set_option linter.unusedVariables false
set_option maxRecDepth 100000
namespace Go.Proofs.YtpbmpdocgplhpaaDoor
open Go Go.AM

theorem bl_iff : ∀ a b : List UInt8, Op.bytesLess a b = true ↔ a < b := by
  intro a
  induction a with
  | nil =>
    intro b
    cases b with
    | nil => simp [Op.bytesLess]
    | cons y b => simp [Op.bytesLess]
  | cons x a ih =>
    intro b
    cases b with
    | nil => simp [Op.bytesLess]
    | cons y b =>
      rw [List.cons_lt_cons_iff]
      simp only [Op.bytesLess]
      by_cases hxy : x < y
      · simp [hxy]
      · by_cases he : x = y
        · subst he; simp [ih]
        · simp [hxy, he]
theorem le_bl (a b : List UInt8) : decide (a ≤ b) = !Op.bytesLess b a := by
  rw [Bool.eq_iff_iff, decide_eq_true_eq, Bool.not_eq_true']
  have h : a ≤ b ↔ ¬(b < a) := Iff.rfl
  rw [h, ← bl_iff, Bool.not_eq_true]
theorem le_tr (a b c : List UInt8) (h1 : decide (a ≤ b) = true) (h2 : decide (b ≤ c) = true) : decide (a ≤ c) = true := by
  rw [le_bl, Bool.not_eq_true'] at h1 h2 ⊢
  rw [Bool.eq_false_iff]
  intro h
  by_cases e : b = a
  · subst e; rw [h2] at h; simp at h
  · have h3 := bl_total _ _ h1 e
    have := bl_trans _ _ _ h h3
    rw [h2] at this; simp at this
theorem le_to (a b : List UInt8) : (decide (a ≤ b) || decide (b ≤ a)) = true := by
  rw [le_bl, le_bl]
  cases h1 : Op.bytesLess b a with
  | false => rfl
  | true =>
    cases h2 : Op.bytesLess a b with
    | false => rfl
    | true =>
      have := bl_trans _ _ _ h1 h2
      rw [bl_irrefl] at this; simp at this
theorem sortB_perm (L : List ByteArray) : (sortB L).Perm L := by
  have h := (List.mergeSort_perm (L.map fun s => s.data.toList) (fun x y => decide (x ≤ y))).map gB
  have e : (L.map fun s => s.data.toList).map gB = L := by
    rw [List.map_map]
    exact (List.map_congr_left (g := id) fun s _ => gB_of s).trans (List.map_id _)
  rw [e] at h
  exact h
theorem sortB_rising {L : List ByteArray} (hnd : L.Nodup) : Rising (sortB L) := by
  have hn2 : (sortB L).Nodup := (sortB_perm L).symm.nodup hnd
  have hs := List.pairwise_mergeSort (le := fun x y : List UInt8 => decide (x ≤ y)) le_tr le_to (L.map fun s => s.data.toList)
  have h2 : (sortB L).Pairwise fun a b => Op.bytesLess b.data.toList a.data.toList = false := by
    unfold sortB
    rw [List.pairwise_map]
    refine hs.imp fun {a b} h => ?_
    rw [le_bl, Bool.not_eq_true'] at h
    exact h
  unfold Rising
  refine List.Pairwise.imp₂ ?_ h2 hn2
  intro a b h1 hne
  exact lt_total (by unfold ltS; exact h1) (fun e => hne e.symm)
theorem comp_id {L : List ByteArray} (hnd : L.Nodup) : ∀ t k, 1 ≤ k → compOut seq t k L = L := by
  intro t
  induction t with
  | zero => intro k _; rfl
  | succ t ih =>
    intro k hk
    simp only [compOut]
    split
    · rename_i a b h1 h2
      have hne : seq a b = false := by
        rw [Bool.eq_false_iff]
        intro h
        rw [seq_iff] at h
        subst h
        obtain ⟨l1, e1⟩ := List.getElem?_eq_some_iff.1 h1
        obtain ⟨l2, e2⟩ := List.getElem?_eq_some_iff.1 h2
        exact (List.pairwise_iff_getElem.1 hnd) (k - 1) k l2 l1 (by omega) (by rw [e1, e2])
      rw [hne]
      simp only [Bool.false_eq_true, if_false]
      exact ih (k + 1) (by omega)
    · rfl
/-- What 'sorted' makes of different words. -/
theorem sorted_facts {G : List ByteArray} (hnd : G.Nodup) : compactM seq (sortB G) = sortB G ∧ Rising (sortB G) ∧ (sortB G).Perm G :=
  ⟨comp_id ((sortB_perm G).symm.nodup hnd) _ _ (Nat.le_refl _), sortB_rising hnd, sortB_perm G⟩

theorem free_mono {A B : List ByteArray} {n : Nat} (hA : ∀ w ∈ A, w.size = n) (hB : ∀ w ∈ B, w.size = n) (hs : ∀ x ∈ A, x ∈ B) (hf : freeF A = false) : freeF B = false := by
  obtain ⟨u, v, x, a, h1, h2, h3, h4, h5, h6⟩ := (free_false hA).1 hf
  exact (free_false hB).2 ⟨u, v, x, a, hs u h1, hs v h2, hs x h3, h4, h5, h6⟩
theorem growF_full {k n : Nat} : ∀ (ws : List (List UInt8)) (out : List ByteArray), (∀ w ∈ ws, (gB w).size = n ∧ overF k (gB w) = true) → GrowOK k n out → ∀ w ∈ ws, gB w ∈ growF out ws ∨ freeF (growF out ws ++ [gB w]) = false := by
  intro ws
  induction ws with
  | nil => intro out _ _ w hw; simp at hw
  | cons y ws ih =>
    intro out h g w hw
    obtain ⟨g1, s1⟩ := growStep_ok g (h y (List.mem_cons_self ..))
    have h' : ∀ w ∈ ws, (gB w).size = n ∧ overF k (gB w) = true := fun x hx => h x (List.mem_cons_of_mem _ hx)
    obtain ⟨g2, s2⟩ := growF_ok ws (growStep out y) h' g1
    show gB w ∈ growF (growStep out y) ws ∨ freeF (growF (growStep out y) ws ++ [gB w]) = false
    rcases List.mem_cons.1 hw with rfl | hw
    · have hy := h w (List.mem_cons_self ..)
      cases hb : isIn (gB w) out with
      | true => exact Or.inl (s2 _ (s1 _ (isIn_iff.1 hb)))
      | false =>
        cases hf : freeF (out ++ [gB w]) with
        | true =>
          refine Or.inl (s2 _ ?_)
          unfold growStep
          rw [hb, hf]
          exact List.mem_append_right _ (List.mem_singleton.2 rfl)
        | false =>
          refine Or.inr (free_mono (n := n) (fun x hx => ?_) (fun x hx => ?_) (fun x hx => ?_) hf)
          · rcases List.mem_append.1 hx with hx | hx
            · exact (g.wd x hx).1
            · rw [List.mem_singleton.1 hx]; exact hy.1
          · rcases List.mem_append.1 hx with hx | hx
            · exact (g2.wd x hx).1
            · rw [List.mem_singleton.1 hx]; exact hy.1
          · rcases List.mem_append.1 hx with hx | hx
            · exact List.mem_append_left _ (s2 _ (s1 _ hx))
            · exact List.mem_append_right _ hx
    · exact ih (growStep out y) h' g1 w hw
theorem allM_mem {k : Nat} (hk : k ≤ 4) : ∀ (n : Nat) (w : ByteArray), w ∈ allM k n → w.data.toList.length = n ∧ ∀ c ∈ w.data.toList, c ∈ lettersL k := by
  intro n
  induction n with
  | zero =>
    intro w hw
    simp only [allM, List.mem_singleton] at hw
    subst hw
    exact ⟨rfl, fun c hc => by simp at hc⟩
  | succ n ih =>
    intro w hw
    simp only [allM, List.mem_flatMap, nextW, List.mem_map, List.mem_range] at hw
    obtain ⟨u, hu, c, hc, rfl⟩ := hw
    obtain ⟨h1, h2⟩ := ih u hu
    have e : (u ++ letterB c).data.toList = u.data.toList ++ [UInt8.ofNat (97 + c)] := by
      rw [ByteArray.data_append, Array.toList_append]; rfl
    rw [e]
    refine ⟨by simp [h1], fun x hx => ?_⟩
    rcases List.mem_append.1 hx with hx | hx
    · exact h2 x hx
    · rw [List.mem_singleton.1 hx]
      have key : ∀ k : Fin 5, ∀ c : Fin 4, c.val < k.val → UInt8.ofNat (97 + c.val) ∈ lettersL k.val := by decide
      exact key ⟨k, by omega⟩ ⟨c, by omega⟩ hc
theorem allM_words {k n : Nat} (hk : k ≤ 4) {w : ByteArray} (hw : w ∈ allM k n) : w.data.toList ∈ wordsL k n ∧ gB w.data.toList = w := by
  obtain ⟨h1, h2⟩ := allM_mem hk n w hw
  refine ⟨?_, gB_of w⟩
  have := grow_in (lettersL k) n [] w.data.toList h1 h2
  simpa [wordsL] using this

/-- All that the law asks of what Grow hands back. -/
structure GrowRes (k n : Nat) (C R : List ByteArray) : Prop where
  code : codeF k n R = true
  free : freeF R = true
  cont : ∀ w ∈ C, w ∈ R
  full : ∀ w ∈ allM k n, w ∈ R ∨ freeF (withS R w) = false
  wd : ∀ w ∈ R, w.size = n ∧ overF k w = true
theorem rings_81 : ∀ k : Fin 5, ∀ n : Fin 5, (ringsL k n).length ≤ 81 := by decide +kernel
theorem grow_res {k n : Nat} (hk : k ≤ 4) {C : List ByteArray} (g : GrowOK k n C) : GrowRes k n C (sortB (growF C (wordsL k n))) := by
  obtain ⟨g2, s2⟩ := grow_words g
  obtain ⟨_, hR, hP⟩ := sorted_facts g2.nd
  have hm : ∀ x, x ∈ sortB (growF C (wordsL k n)) ↔ x ∈ growF C (wordsL k n) := fun x => hP.mem_iff
  have hwd : ∀ w ∈ sortB (growF C (wordsL k n)), w.size = n ∧ overF k w = true := fun w h => g2.wd w ((hm w).1 h)
  refine ⟨code_of hwd hR (fun q hq => by simp at hq), ?_, fun w h => (hm w).2 (s2 w h), fun w hw => ?_, hwd⟩
  · cases hf : freeF (sortB (growF C (wordsL k n))) with
    | true => rfl
    | false =>
      have := free_mono (n := n) (fun w h => (hwd w h).1) (fun w h => (g2.wd w h).1) (fun x h => (hm x).1 h) hf
      rw [g2.fr] at this; simp at this
  · obtain ⟨h1, h2⟩ := allM_words hk hw
    have hwo := words_over h1
    rw [h2] at hwo
    have := growF_full _ C (fun w hw => words_over hw) g _ h1
    rw [h2] at this
    rcases this with h | h
    · exact Or.inl ((hm w).2 h)
    · refine Or.inr (free_mono (n := n) (fun x hx => ?_) (fun x hx => ?_) (fun x hx => ?_) h)
      · rcases List.mem_append.1 hx with hx | hx
        · exact (g2.wd x hx).1
        · rw [List.mem_singleton.1 hx]; exact hwo.1
      · rcases mem_withS.1 hx with hx | rfl
        · exact (hwd x hx).1
        · exact hwo.1
      · rcases List.mem_append.1 hx with hx | hx
        · exact mem_withS.2 (Or.inl ((hm x).2 hx))
        · exact mem_withS.2 (Or.inr (List.mem_singleton.1 hx))
theorem grow_81 {k n : Nat} {C : List ByteArray} (g : GrowOK k n C) (hk : k ≤ 4) (hn1 : 1 ≤ n) (hn : n ≤ 4) : (growF C (wordsL k n)).length ≤ 81 := by
  have g2 := (grow_words g).1
  have h1 := count_nd (free_clR (fun w h => (g2.wd w h).1) g2.fr) g2.nd g2.wd hk hn1 (by omega)
  exact Nat.le_trans h1 (rings_81 ⟨k, by omega⟩ ⟨n, by omega⟩)
end Go.Proofs.YtpbmpdocgplhpaaDoor
