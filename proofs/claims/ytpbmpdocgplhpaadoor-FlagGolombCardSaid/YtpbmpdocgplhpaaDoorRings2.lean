/-
  flag.words, flag.rings and flag.Rings, whole.
-/
import Derived.Test.YtpbmpdocgplhpaaDoorRings
set_option linter.unusedSimpArgs false
set_option linter.unusedVariables false
set_option maxRecDepth 100000
namespace Go.Proofs.YtpbmpdocgplhpaaDoor
open Go Go.AM

theorem words_spec {X : Ext} (hX : X 58 = none) (k n : Int) (h : AHeap) :
    Ca Tryd.prog X (.fn 58) [I k, I n] h (fun v h' => v = .func (.func 76) #[] #[.pointer (some ⟨(h ++ [AObj.row [I k] true]).length, 0, none⟩), .pointer (some ⟨h.length, 0, none⟩)] ∧ h' = h ++ [.row [I k] true] ++ [.row [I n] true]) := by
  refine Ca_fn (fn := Tryd.f58) (c := Tryd.f58.body.getD .skip) hX (by kernel_rfl) (by kernel_rfl) (by kernel_rfl) ?_
  refine Run 1000 ?_
  refine Box (I k) (by kernel_rfl) (by kernel_rfl) rfl ?_
  refine Run 1000 ?_
  refine Box (I n) (by kernel_rfl) (by kernel_rfl) rfl ?_
  refine Run 1000 ?_
  exact Fin_r (by kernel_rfl) ⟨Or.inr rfl, .func (.func 76) #[] #[.pointer (some ⟨(h ++ [AObj.row [I k] true]).length, 0, none⟩), .pointer (some ⟨h.length, 0, none⟩)], by kernel_rfl, rfl, rfl⟩

/-- The function literal's own two variables. -/
def ownVars (h : AHeap) (l nc kc : Nat) : AHeap :=
  h ++ [.row [.func (.yield l) #[] #[]] true] ++ [.row [.func (.func 77) #[] #[.pointer (some ⟨nc, 0, none⟩), .pointer (some ⟨h.length, 0, none⟩), .pointer (some ⟨kc, 0, none⟩), .pointer (some ⟨h.length + 1, 0, none⟩)]] true]
theorem words1_spec {X : Ext} (hX : X 76 = none) (hX2 : X 77 = none) {k n l m nc kc : Nat} {Iv : List (List UInt8) → AHeap → Prop} (h : AHeap) (hk : k ≤ 4) (hn : n < 1000)
    (hnc : h[nc]? = some (.row [I n] true)) (hkc : h[kc]? = some (.row [I k] true)) (n1 : nc ≠ l ∧ nc ≠ m) (k1 : kc ≠ l ∧ kc ≠ m) (hl : l < h.length) (hm : m < h.length)
    (Y : Yields X (h.length + 2) l m (wordsL k n) Iv) (hI : Iv [] (ownVars h l nc kc)) :
    Ca Tryd.prog X (.fn 76) [.func (.yield l) #[] #[], .pointer (some ⟨nc, 0, none⟩), .pointer (some ⟨kc, 0, none⟩)] h (fun v h' => Iv (wordsL k n) h' ∧ Keep (h.length + 2) l m (ownVars h l nc kc) h') := by
  have hncl := lt_of_get hnc
  have hkcl := lt_of_get hkc
  refine Ca_fn (fn := Tryd.f76) (c := Tryd.f76.body.getD .skip) hX (by kernel_rfl) (by kernel_rfl) (by kernel_rfl) ?_
  refine Run 1000 ?_
  refine Box (.func (.yield l) #[] #[]) (by kernel_rfl) (by kernel_rfl) rfl ?_
  refine Run 1000 ?_
  refine Alloc 64 (by kernel_rfl) (by kernel_rfl) ti64 rfl ?_
  refine Run 1000 ?_
  have e1 : (h ++ [AObj.row [Value.func (.yield l) #[] #[]] true]).length = h.length + 1 := by simp
  refine Store 64 (.pointer (some ⟨(h ++ [AObj.row [Value.func (.yield l) #[] #[]] true]).length, 0, none⟩)) (.func (.func 77) #[] #[.pointer (some ⟨nc, 0, none⟩), .pointer (some ⟨h.length, 0, none⟩), .pointer (some ⟨kc, 0, none⟩), .pointer (some ⟨(h ++ [AObj.row [Value.func (.yield l) #[] #[]] true]).length, 0, none⟩)]) (ownVars h l nc kc) (by kernel_rfl) (by kernel_rfl) ?_ ?_
  · show astore Tryd.prog (h ++ [AObj.row [Value.func (.yield l) #[] #[]] true] ++ [AObj.row [Value.nilFunc] true]) 64 _ _ = _
    rw [store_row (cs := [.nilFunc]) ti64 rfl rfl rfl rfl (by rw [List.getElem?_append_right (Nat.le_refl _)]; simp) (by simp)]
    simp [ownVars, splice]
  refine Run 1000 ?_
  have hg : (ownVars h l nc kc)[h.length + 1]? = some (.row [.func (.func 77) #[] #[.pointer (some ⟨nc, 0, none⟩), .pointer (some ⟨h.length, 0, none⟩), .pointer (some ⟨kc, 0, none⟩), .pointer (some ⟨h.length + 1, 0, none⟩)]] true) := by
    unfold ownVars; rw [List.getElem?_append_right (by simp)]; simp
  refine Load 64 (.pointer (some ⟨(h ++ [AObj.row [Value.func (.yield l) #[] #[]] true]).length, 0, none⟩)) (.func (.func 77) #[] #[.pointer (some ⟨nc, 0, none⟩), .pointer (some ⟨h.length, 0, none⟩), .pointer (some ⟨kc, 0, none⟩), .pointer (some ⟨h.length + 1, 0, none⟩)]) (by kernel_rfl) (by kernel_rfl) (by rw [e1]; exact load_row ti64 rfl hg rfl) ?_
  refine Run 1000 ?_
  have hC : Caps l n k nc h.length kc (h.length + 1) (ownVars h l nc kc) := by
    refine ⟨?_, ?_, ?_, hg⟩
    · unfold ownVars; rw [List.append_assoc, List.getElem?_append_left hncl]; exact hnc
    · unfold ownVars; rw [List.append_assoc, List.getElem?_append_right (Nat.le_refl _)]; simp
    · unfold ownVars; rw [List.append_assoc, List.getElem?_append_left hkcl]; exact hkc
  have hspec := grow_spec (X := X) (Iv := Iv) (T := wordsL k n) hX2 (B := h.length + 2) (l := l) (m := m) (n := n) (k := k) ⟨⟨by omega, n1⟩, ⟨by omega, by omega, by omega⟩, ⟨by omega, k1⟩, ⟨by omega, by omega, by omega⟩⟩ hk Y hn n [] [] [] (ownVars h l nc kc) (by simp) (by simp [wordsL]) hI hC (by simp [ownVars])
  refine Fin_call 77 (growArgs nc h.length kc (h.length + 1) []) (by kernel_rfl) (by kernel_rfl) hspec (fun v hh hv => ?_)
  obtain ⟨rfl, h1, h2⟩ := hv
  refine Run 1000 ?_
  exact Fin_e (by kernel_rfl) ⟨Or.inl rfl, .tuple #[], by kernel_rfl, by simpa [wordsL] using h1, h2⟩

theorem words_len : ∀ k : Fin 5, ∀ n : Fin 6, (wordsL k n).length < 1000000 := by decide +kernel
theorem ringsF_out (k n : Nat) : ringOut (wordsL k n) = ringsF k n := rfl

theorem rings_spec {X : Ext} (x : RingX X) (k n : Nat) (hk : k ≤ 4) (hn1 : 1 ≤ n) (hn : n ≤ 5) (h : AHeap) :
    Ca Tryd.prog X (.fn 50) [I k, I n] h (fun v h' => Acc h h' v (ringsF k n)) := by
  refine Ca_fn (fn := Tryd.f50) (c := Tryd.f50.body.getD .skip) x.x50 (by kernel_rfl) (by kernel_rfl) (by kernel_rfl) ?_
  refine Run 1000 ?_
  refine Alloc 22 (by kernel_rfl) (by kernel_rfl) ti22 rfl ?_
  refine Run 1000 ?_
  have w58 : Ca Tryd.prog X (.fn 58) [I k, I n] (h ++ [AObj.row [Value.slice none 0 0] true]) (fun v h' => v = .func (.func 76) #[] #[.pointer (some ⟨h.length + 2, 0, none⟩), .pointer (some ⟨h.length + 1, 0, none⟩)] ∧ h' = h ++ [.row [.slice none 0 0] true, .row [I k] true, .row [I n] true]) :=
    (words_spec x.x58 k n _).imp (fun v h' ⟨a, b⟩ => ⟨by rw [a]; simp, by rw [b]; simp⟩)
  refine Fin_call 58 [I k, I n] (by kernel_rfl) (by kernel_rfl) w58 (fun v2 h2 hv2 => ?_)
  obtain ⟨rfl, e2⟩ := hv2
  have l2 : h2.length = h.length + 3 := by rw [e2]; simp
  refine Run 1000 ?_
  have hoc : h2[h.length]? = some (.row [.slice none 0 0] true) := by rw [e2, List.getElem?_append_right (Nat.le_refl _)]; simp
  have hkc : h2[h.length + 1]? = some (.row [I k] true) := by rw [e2, List.getElem?_append_right (by omega)]; simp
  have hnc : h2[h.length + 2]? = some (.row [I n] true) := by rw [e2, List.getElem?_append_right (by omega)]; simp
  have hT := words_len ⟨k, by omega⟩ ⟨n, by omega⟩
  have key : ∀ ts : List Value, ts.length = Tryd.f50.ntmps → ts.getD 5 undef = .pointer (some ⟨h.length, 0, none⟩) →
      Ca Tryd.prog X (.fn 76) ([] ++ [.func (.yield h2.length) #[] #[]] ++ [.pointer (some ⟨h.length + 2, 0, none⟩), .pointer (some ⟨h.length + 1, 0, none⟩)]) (h2 ++ [.loop .ready none ts [10] ringAs ringBd])
        (fun v h' => Outs h2.length h.length (h2.length + 3) ts [10] ringAs ringBd ringOut (wordsL k n) h' ∧ Keep (h2.length + 3) h2.length h.length (ownVars (h2 ++ [.loop .ready none ts [10] ringAs ringBd]) h2.length (h.length + 2) (h.length + 1)) h') := by
    intro ts ht h5
    have hlen : (h2 ++ [AObj.loop .ready none ts [10] ringAs ringBd]).length = h2.length + 1 := by simp
    have Y := ring_yields x (k := k) (n := n) (l := h2.length) (oc := h.length) (B := h2.length + 3) hn1 hn hT (by omega) (by omega) (by omega) ht h5
    have := words1_spec (X := X) x.x76 x.x77 (k := k) (n := n) (l := h2.length) (m := h.length) (nc := h.length + 2) (kc := h.length + 1) (Iv := fun L h' => Outs h2.length h.length (h2.length + 3) ts [10] ringAs ringBd ringOut L h') (h2 ++ [AObj.loop .ready none ts [10] ringAs ringBd]) hk (by omega)
      (by rw [List.getElem?_append_left (by omega)]; exact hnc) (by rw [List.getElem?_append_left (by omega)]; exact hkc) ⟨by omega, by omega⟩ ⟨by omega, by omega⟩ (by omega) (by omega) (by rw [hlen]; exact Y) ?_
    · rw [hlen] at this; exact this
    · refine ⟨?_, ⟨.slice none 0 0, ?_, ?_⟩, ?_⟩
      · unfold ownVars; rw [List.append_assoc, List.getElem?_append_left (by omega), List.getElem?_append_right (Nat.le_refl _)]; simp
      · unfold ownVars; rw [List.append_assoc, List.getElem?_append_left (by omega), List.getElem?_append_left (by omega)]; exact hoc
      · refine ⟨by simp; omega, fun j hj => ?_, Or.inl ⟨by simp [ringOut], rfl⟩⟩
        simp at hj; rw [List.getElem?_take, if_pos (by omega)]
      · simp [ownVars]
  refine RangeF 76 [] [.pointer (some ⟨h.length + 2, 0, none⟩), .pointer (some ⟨h.length + 1, 0, none⟩)] [10] ringAs ringBd ?_ rfl (key _ (by simp) (by kernel_rfl)) (fun v h' hv => ?_)
  · kernel_rfl
  obtain ⟨o, K⟩ := hv
  obtain ⟨v, hv, A⟩ := o.out
  have hle := K.len
  refine ⟨.ready, none, _, [10], ringAs, ringBd, .normal, o.lp, by simp, rfl, ?_⟩
  refine Run 1000 ?_
  have hne : h2.length ≠ h.length := by omega
  refine Load 22 (.pointer (some ⟨h.length, 0, none⟩)) v (by kernel_rfl) (by kernel_rfl) (load_row ti22 rfl (by rw [List.getElem?_set_ne hne]; exact hv) rfl) ?_
  refine Run 1000 ?_
  refine Fin_r (by kernel_rfl) ⟨Or.inr rfl, v, by kernel_rfl, ?_⟩
  have hlh : h2.length < h'.length := lt_of_get o.lp
  refine ⟨by simp; omega, fun j hj => ?_, ?_⟩
  · rw [List.getElem?_set_ne (by omega), K.low j (by omega) (by omega) (by omega)]
    unfold ownVars
    rw [List.append_assoc, List.getElem?_append_left (by simp; omega), List.getElem?_append_left (by omega), e2, List.getElem?_append_left hj]
  · rcases A.val with e | ⟨b, hb, e, hr⟩
    · exact Or.inl e
    · have hb' : h2.length + 3 ≤ b := by have := o.le; simp at hb; omega
      exact Or.inr ⟨b, by omega, e, by rw [List.getElem?_set_ne (by omega)]; exact hr⟩
end Go.Proofs.YtpbmpdocgplhpaaDoor
