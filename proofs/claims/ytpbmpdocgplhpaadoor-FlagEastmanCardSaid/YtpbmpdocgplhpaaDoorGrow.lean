/-
  flag.Grow.
-/
import Derived.Test.YtpbmpdocgplhpaaDoorGrowY
import Derived.Test.YtpbmpdocgplhpaaDoorMH
set_option linter.unusedSimpArgs false
set_option linter.unusedVariables false
set_option maxRecDepth 100000
namespace Go.Proofs.YtpbmpdocgplhpaaDoor
open Go Go.AM

theorem Grew.of_get {h h' : AHeap} (hl : h.length ≤ h'.length) (hg : ∀ j, j < h.length → h'[j]? = h[j]?) : Grew h h' := by
  refine ⟨h'.drop h.length, ?_⟩
  apply List.ext_getElem?
  intro j
  by_cases hj : j < h.length
  · rw [hg j hj, List.getElem?_append_left hj]
  · rw [List.getElem?_append_right (by omega), List.getElem?_drop]; congr 1; omega
/-- A list of strings in new memory. -/
def GRes (h h' : AHeap) (v : Value) (R : List ByteArray) : Prop :=
  Grew h h' ∧ ((R = [] ∧ v = .slice none 0 0) ∨ ∃ b kk L', h.length ≤ b ∧ v = .slice (some ⟨b, 0, some 1⟩) R.length kk ∧ h'[b]? = some (.row (strs L') true) ∧ L'.take R.length = R)
theorem GRes.strs {h h' : AHeap} {v : Value} {R : List ByteArray} (g : GRes h h' v R) : ∃ a kk, v = .slice a R.length kk ∧ Strs h' a R := by
  rcases g.2 with ⟨rfl, rfl⟩ | ⟨b, kk, L', _, rfl, hb, ht⟩
  · exact ⟨none, 0, rfl, Or.inl rfl, fun i hi => by simp at hi⟩
  · refine ⟨_, kk, rfl, Or.inr ⟨b, 0, rfl⟩, fun i hi => ⟨b, 0, _, true, rfl, hb, ?_⟩⟩
    rw [Nat.zero_add]
    refine strs_get ?_
    have h1 : (L'.take R.length)[i]? = R[i]? := by rw [ht]
    rw [List.getElem?_take, if_pos hi] at h1
    rw [h1, List.getElem?_eq_getElem hi]

structure GrowXX (X : Ext) : Prop where
  g : GrowX X
  o : OverX X
  x41 : X 41 = none
  x49 : X 49 = none
  x66 : X 66 = none
  x58 : X 58 = none
  x76 : X 76 = none
  x77 : X 77 = none

theorem grow_clash {X : Ext} (x : GrowXX X) (k n : Nat) (hin : inRange k n = true) (h : AHeap) (a : Option Addr) (kk : Nat) (C : List ByteArray) (hC : C.length < 10000) (hst : Strs h a C) (hc : codeF k n C = true) (h0 : h[0]? = some noneRow) (hf : freeF C = false) :
    Ca Tryd.prog X (.fn 41) [I k, I n, .slice a C.length kk] h (fun v h' => v = .tuple #[.slice none 0 0, I 60] ∧ Grew h h') := by
  have hopen : openF k n C = 0 := by
    unfold openF
    rw [if_pos hin]
    simp only [Int.toNat_natCast, hc, cod]
    rfl
  have hsz : ∀ w ∈ C, w.size = n := fun w hw => (codeGo_size hc w hw).1
  obtain ⟨i1, i2, i3, i4⟩ := inRange_iff.1 hin
  have c49 := open_spec x.x49 x.o k n h a kk C (by omega) hst
  rw [hopen] at c49
  refine Ca_fn (fn := Tryd.f41) (c := Tryd.f41.body.getD .skip) x.x41 (by kernel_rfl) (by kernel_rfl) (by kernel_rfl) ?_
  refine Run 1000 ?_
  refine Fin_call 49 [I k, I n, .slice a C.length kk] (by kernel_rfl) (by kernel_rfl) c49 (fun v1 h1 hv1 => ?_)
  obtain ⟨rfl, G1⟩ := hv1
  refine RunA 1000 1 ?_
  refine DrawR [0] x.g.kp (by kernel_rfl) (by kernel_rfl) (only0 (G1.at h0)) ?_
  refine Run 1000 ?_
  refine Fin_call 59 [.slice a C.length kk] (by kernel_rfl) (by kernel_rfl) (clash_spec x.g.x59 h1 a kk C n (hst.grow G1) hsz (by omega) (G1.at h0) (by omega)) (fun v2 h2 hv2 => ?_)
  obtain ⟨⟨res, rfl, hR⟩, G2⟩ := hv2
  have G := G1.trans G2
  have hfr := trio_facts hsz res hR
  rw [hf] at hfr
  refine Run 1000 ?_
  refine Load 81 (.pointer (some ⟨0, 0, none⟩)) (.agg #[I (-1), I (-1), I (-1)]) (by kernel_rfl) (by kernel_rfl) (load81 (G.at h0)) ?_
  refine Run 1000 ?_
  cases res with
  | none => simp at hfr
  | some t =>
    obtain ⟨i, j, m⟩ := t
    have hne : (!((i : Int) == -1 && ((j : Int) == -1 && ((m : Int) == -1 && true)))) = true := by
      have : ((i : Int) == -1) = false := by simp
      rw [this]; rfl
    refine Bin .neq 81 (.agg #[I i, I j, I m]) (.agg #[I (-1), I (-1), I (-1)]) (.bool true) (by kernel_rfl) (by kernel_rfl) (Eq.trans (b := some (.bool (!((i : Int) == -1 && ((j : Int) == -1 && ((m : Int) == -1 && true)))))) (by kernel_rfl) (by rw [hne])) ?_
    refine RunA 1000 2 ?_
    exact Fin_r (by kernel_rfl) ⟨Or.inr rfl, .tuple #[.slice none 0 0, I 60], by kernel_rfl, rfl, G⟩

theorem words_len' : ∀ k : Fin 5, ∀ n : Fin 6, (wordsL k n).length < 100000 := by decide +kernel
set_option maxHeartbeats 1000000 in
theorem grow_ok {X : Ext} (x : GrowXX X) (k n : Nat) (hin : inRange k n = true) (h : AHeap) (a : Option Addr) (kk : Nat) (C : List ByteArray) (hC : C.length < 10000) (hst : Strs h a C) (hnil : C = [] → a = none) (hc : codeF k n C = true) (h0 : h[0]? = some noneRow) (hf : freeF C = true)
    (R : List ByteArray)
    (hS : ∀ h b kk, h[b]? = some (.row (strs (growF C (wordsL k n))) true) → Ca Tryd.prog X (.fn 64) [.slice (some ⟨b, 0, some 1⟩) (growF C (wordsL k n)).length kk] h (fun v h' => ∃ L' kk', v = .slice (some ⟨b, 0, some 1⟩) R.length kk' ∧ h' = h.set b (.row (strs L') true) ∧ L'.take R.length = R))
    (hN : growF C (wordsL k n) = [] → R = [] ∧ ∀ h, Ca Tryd.prog X (.fn 64) [.slice none 0 0] h (fun v h' => v = .slice none 0 0 ∧ h' = h)) :
    Ca Tryd.prog X (.fn 41) [I k, I n, .slice a C.length kk] h (fun v h' => ∃ v1, v = .tuple #[v1, I 0] ∧ GRes h h' v1 R) := by
  have hopen : openF k n C = 0 := by
    unfold openF
    rw [if_pos hin]
    simp only [Int.toNat_natCast, hc, cod]
    rfl
  have hsz : ∀ w ∈ C, w.size = n := fun w hw => (codeGo_size hc w hw).1
  obtain ⟨i1, i2, i3, i4⟩ := inRange_iff.1 hin
  have hT := words_len' ⟨k, by omega⟩ ⟨n, by omega⟩
  have c49 := open_spec x.x49 x.o k n h a kk C (by omega) hst
  rw [hopen] at c49
  refine Ca_fn (fn := Tryd.f41) (c := Tryd.f41.body.getD .skip) x.x41 (by kernel_rfl) (by kernel_rfl) (by kernel_rfl) ?_
  refine Run 1000 ?_
  refine Fin_call 49 [I k, I n, .slice a C.length kk] (by kernel_rfl) (by kernel_rfl) c49 (fun v1 h1 hv1 => ?_)
  obtain ⟨rfl, G1⟩ := hv1
  refine RunA 1000 1 ?_
  refine DrawR [0] x.g.kp (by kernel_rfl) (by kernel_rfl) (only0 (G1.at h0)) ?_
  refine Run 1000 ?_
  refine Fin_call 59 [.slice a C.length kk] (by kernel_rfl) (by kernel_rfl) (clash_spec x.g.x59 h1 a kk C n (hst.grow G1) hsz (by omega) (G1.at h0) (by omega)) (fun v2 h2 hv2 => ?_)
  obtain ⟨⟨res, rfl, hR⟩, G2⟩ := hv2
  have G := G1.trans G2
  have hfr := trio_facts hsz res hR
  rw [hf] at hfr
  refine Run 1000 ?_
  refine Load 81 (.pointer (some ⟨0, 0, none⟩)) (.agg #[I (-1), I (-1), I (-1)]) (by kernel_rfl) (by kernel_rfl) (load81 (G.at h0)) ?_
  refine Run 1000 ?_
  cases res with
  | some t => simp at hfr
  | none =>
    refine Bin .neq 81 (.agg #[I (-1), I (-1), I (-1)]) (.agg #[I (-1), I (-1), I (-1)]) (.bool false) (by kernel_rfl) (by kernel_rfl) (by kernel_rfl) ?_
    refine RunA 1000 2 ?_
    refine Fin_call 66 [.slice a C.length kk] (by kernel_rfl) (by kernel_rfl) (clone_spec x.x66 h2 a kk C (by omega) (hst.grow G) hnil) (fun v3 h3 A3 => ?_)
    have G3 := A3.grew
    have z3 := (G.trans G3).at h0
    have l3 := lt_of_get z3
    have A3r : OwnRow h.length (h3.length + 3) h3.length h3 v3 (growF C []) := by
      rcases A3.val with e | ⟨b, hb, e, hr⟩
      · exact Or.inl e
      · have := lt_of_get hr
        have := G.le
        exact Or.inr ⟨b, by omega, by omega, by omega, e, hr⟩
    have hvv : v3.cells = #[v3] ∧ isData v3 = true ∧ isCell v3 = true := by
      rcases A3.val with ⟨_, e⟩ | ⟨b, _, e, _⟩ <;> rw [e] <;> exact ⟨rfl, rfl, rfl⟩
    obtain ⟨h4, e4⟩ : ∃ h4, h4 = h3 ++ [AObj.row [v3] true] := ⟨_, rfl⟩
    have hst4 : astore Tryd.prog (h3 ++ [AObj.row [Value.slice none 0 0] true]) 22 (.pointer (some ⟨h3.length, 0, none⟩)) v3 = some h4 := by
      rw [store_row (cs := [.slice none 0 0]) ti22 rfl hvv.1 hvv.2.1 hvv.2.2 (by rw [List.getElem?_append_right (Nat.le_refl _)]; simp) (by simp), e4]
      simp [splice]
    refine Run 1000 ?_
    refine Alloc 22 (by kernel_rfl) (by kernel_rfl) ti22 rfl ?_
    refine Run 1000 ?_
    refine Store 22 (.pointer (some ⟨h3.length, 0, none⟩)) v3 h4 (by kernel_rfl) (by kernel_rfl) hst4 ?_
    refine Run 1000 ?_
    have l4 : h4.length = h3.length + 1 := by rw [e4]; simp
    have w58 : Ca Tryd.prog X (.fn 58) [I k, I n] h4 (fun v h' => v = .func (.func 76) #[] #[.pointer (some ⟨h3.length + 2, 0, none⟩), .pointer (some ⟨h3.length + 1, 0, none⟩)] ∧ h' = h4 ++ [.row [I k] true, .row [I n] true]) :=
      (words_spec x.x58 k n _).imp (fun v h' ⟨a, b⟩ => ⟨by rw [a]; simp [l4], by rw [b]; simp⟩)
    refine Fin_call 58 [I k, I n] (by kernel_rfl) (by kernel_rfl) w58 (fun v5 h5 hv5 => ?_)
    obtain ⟨rfl, e5⟩ := hv5
    have l5 : h5.length = h3.length + 3 := by rw [e5]; simp [l4]
    refine Run 1000 ?_
    have old5 : ∀ j, j < h3.length → h5[j]? = h3[j]? := by
      intro j hj
      rw [e5, List.getElem?_append_left (by omega), e4, List.getElem?_append_left hj]
    have hoc : h5[h3.length]? = some (.row [v3] true) := by rw [e5, List.getElem?_append_left (by omega), e4, List.getElem?_append_right (Nat.le_refl _)]; simp
    have hkc : h5[h3.length + 1]? = some (.row [I k] true) := by rw [e5, List.getElem?_append_right (by omega), l4]; simp
    have hnc : h5[h3.length + 2]? = some (.row [I n] true) := by rw [e5, List.getElem?_append_right (by omega), l4]; simp
    have key : ∀ ts : List Value, ts.length = Tryd.f41.ntmps → ts.getD 9 undef = .pointer (some ⟨h3.length, 0, none⟩) →
        Ca Tryd.prog X (.fn 76) ([] ++ [.func (.yield h5.length) #[] #[]] ++ [.pointer (some ⟨h3.length + 2, 0, none⟩), .pointer (some ⟨h3.length + 1, 0, none⟩)]) (h5 ++ [.loop .ready none ts [28] growAs growBd])
          (fun v h' => GOuts h.length h5.length h3.length n ts [28] growAs growBd C (wordsL k n) h' ∧ Keep (h5.length + 3) h5.length h3.length (ownVars (h5 ++ [.loop .ready none ts [28] growAs growBd]) h5.length (h3.length + 2) (h3.length + 1)) h') := by
      intro ts ht h9
      have hlen : (h5 ++ [AObj.loop .ready none ts [28] growAs growBd]).length = h5.length + 1 := by simp
      have Y := grow_yields x.g (k := k) (n := n) (B0 := h.length) (l := h5.length) (oc := h3.length) (B := h5.length + 3) (C := C) (by have := (G.trans G3).le; omega) hC (by omega) hT (by omega) (by omega) (by omega) (by omega) (by omega) ht h9
      have := words1_spec (X := X) x.x76 x.x77 (k := k) (n := n) (l := h5.length) (m := h3.length) (nc := h3.length + 2) (kc := h3.length + 1) (Iv := fun L h' => GOuts h.length h5.length h3.length n ts [28] growAs growBd C L h') (h5 ++ [AObj.loop .ready none ts [28] growAs growBd]) (by omega) (by omega)
        (by rw [List.getElem?_append_left (by omega)]; exact hnc) (by rw [List.getElem?_append_left (by omega)]; exact hkc) ⟨by omega, by omega⟩ ⟨by omega, by omega⟩ (by omega) (by omega) (by rw [hlen]; exact Y) ?_
      · rw [hlen] at this; exact this
      · have low : ∀ j, j < h5.length → (ownVars (h5 ++ [AObj.loop .ready none ts [28] growAs growBd]) h5.length (h3.length + 2) (h3.length + 1))[j]? = h5[j]? := by
          intro j hj
          unfold ownVars
          rw [List.append_assoc, List.getElem?_append_left (by simp; omega), List.getElem?_append_left hj]
        refine ⟨?_, ?_, ⟨v3, ?_, ?_⟩, hsz⟩
        · unfold ownVars; rw [List.append_assoc, List.getElem?_append_left (by omega), List.getElem?_append_right (Nat.le_refl _)]; simp
        · rw [low 0 (by omega), old5 0 (by omega)]; exact z3
        · rw [low _ (by omega)]; exact hoc
        · rw [l5]
          exact A3r.keep (fun b h1 h2 ⟨cs, hb⟩ => by have := lt_of_get hb; rw [← l5, low b (by omega), old5 b this])
    refine RangeF 76 [] [.pointer (some ⟨h3.length + 2, 0, none⟩), .pointer (some ⟨h3.length + 1, 0, none⟩)] [28] growAs growBd ?_ rfl (key _ (by simp) (by kernel_rfl)) (fun v h' hv => ?_)
    · kernel_rfl
    obtain ⟨o, K⟩ := hv
    obtain ⟨v, hv, A⟩ := o.out
    have hle := K.len
    have hlh : h5.length < h'.length := lt_of_get o.lp
    refine ⟨.ready, none, _, [28], growAs, growBd, .normal, o.lp, by simp, rfl, ?_⟩
    refine Run 1000 ?_
    have hne : h5.length ≠ h3.length := by omega
    have K2 : ∀ j, j < h.length → h'[j]? = h[j]? := by
      intro j hj
      have := (G.trans G3).le
      rw [K.low j (by omega) (by omega) (by omega)]
      unfold ownVars
      rw [List.append_assoc, List.getElem?_append_left (by simp; omega), List.getElem?_append_left (by omega), old5 j (by omega), (G.trans G3).get hj]
    have hle2 : h.length ≤ h5.length := by have := (G.trans G3).le; omega
    rcases A with ⟨eg, rfl⟩ | ⟨b, hb0, hb1, hb2, rfl, hr⟩
    · obtain ⟨eR, hN⟩ := hN eg
      refine Load 22 (.pointer (some ⟨h3.length, 0, none⟩)) (.slice none 0 0) (by kernel_rfl) (by kernel_rfl) (load_row ti22 rfl (by rw [List.getElem?_set_ne hne]; exact hv) rfl) ?_
      refine Run 1000 ?_
      refine Fin_call 64 [.slice none 0 0] (by kernel_rfl) (by kernel_rfl) (hN _) (fun v7 h7 hv7 => ?_)
      obtain ⟨rfl, e7⟩ := hv7
      refine RunA 1000 3 ?_
      refine Fin_r (by kernel_rfl) ⟨Or.inr rfl, .tuple #[.slice none 0 0, I 0], by kernel_rfl, _, rfl, ?_, Or.inl ⟨eR, rfl⟩⟩
      rw [e7]
      exact Grew.of_get (by simp; omega) (fun j hj => by rw [List.getElem?_set_ne (by omega)]; exact K2 j hj)
    · refine Load 22 (.pointer (some ⟨h3.length, 0, none⟩)) (.slice (some ⟨b, 0, some 1⟩) (growF C (wordsL k n)).length ((growF C (wordsL k n)).length + 1)) (by kernel_rfl) (by kernel_rfl) (load_row ti22 rfl (by rw [List.getElem?_set_ne hne]; exact hv) rfl) ?_
      refine Run 1000 ?_
      refine Fin_call 64 [.slice (some ⟨b, 0, some 1⟩) (growF C (wordsL k n)).length ((growF C (wordsL k n)).length + 1)] (by kernel_rfl) (by kernel_rfl) (hS _ b _ (by rw [List.getElem?_set_ne (fun e => hb1 e.symm)]; exact hr)) (fun v7 h7 hv7 => ?_)
      obtain ⟨L', kk', rfl, e7, ht⟩ := hv7
      refine RunA 1000 3 ?_
      have hbl := lt_of_get hr
      refine Fin_r (by kernel_rfl) ⟨Or.inr rfl, .tuple #[.slice (some ⟨b, 0, some 1⟩) R.length kk', I 0], by kernel_rfl, _, rfl, ?_, Or.inr ⟨b, kk', L', hb0, rfl, ?_, ht⟩⟩
      · rw [e7]
        exact Grew.of_get (by simp; omega) (fun j hj => by rw [List.getElem?_set_ne (by omega), List.getElem?_set_ne (by omega)]; exact K2 j hj)
      · rw [e7]; exact List.getElem?_set_self (by simp; omega)
end Go.Proofs.YtpbmpdocgplhpaaDoor
