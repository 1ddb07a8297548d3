/-
  The range over the words in flag.Grow.
-/
import Derived.Test.YtpbmpdocgplhpaaDoorGrowK
import Derived.Test.YtpbmpdocgplhpaaDoorMD
import Derived.Test.YtpbmpdocgplhpaaDoorMI
import Derived.Test.YtpbmpdocgplhpaaDoorClPl
import Derived.Test.YtpbmpdocgplhpaaDoorVc13
set_option linter.unusedSimpArgs false
set_option linter.unusedVariables false
set_option maxRecDepth 100000
namespace Go.Proofs.YtpbmpdocgplhpaaDoor
open Go Go.AM

theorem only0 {h : AHeap} (h0 : h[0]? = some noneRow) : ∀ g ∈ [0], ∃ cs, h[g]? = some (.row cs false) := by
  intro g hg
  simp only [List.mem_singleton] at hg
  subst hg
  exact ⟨_, h0⟩
/-- One word more, if it is new and nothing clashes. -/
def growStep (out : List ByteArray) (w : List UInt8) : List ByteArray := bif !(isIn (gB w) out) && freeF (out ++ [gB w]) then out ++ [gB w] else out
def growF (C : List ByteArray) (L : List (List UInt8)) : List ByteArray := L.foldl growStep C
theorem growF_snoc (C : List ByteArray) (L : List (List UInt8)) (w : List UInt8) : growF C (L ++ [w]) = growStep (growF C L) w := by simp [growF]
theorem growStep_length (out : List ByteArray) (w : List UInt8) : (growStep out w).length ≤ out.length + 1 := by
  unfold growStep
  cases !(isIn (gB w) out) && freeF (out ++ [gB w]) <;> simp
theorem growF_length (C : List ByteArray) : ∀ (L : List (List UInt8)), (growF C L).length ≤ C.length + L.length := by
  intro L
  induction L generalizing C with
  | nil => simp [growF]
  | cons w L ih =>
    have := ih (growStep C w)
    have := growStep_length C w
    simp only [growF, List.foldl_cons, List.length_cons] at *
    omega

/-- A list of strings in a row of its own. -/
def OwnRow (B0 l oc : Nat) (h : AHeap) (v : Value) (out : List ByteArray) : Prop :=
  (out = [] ∧ v = .slice none 0 0) ∨ ∃ b, B0 ≤ b ∧ b ≠ l ∧ b ≠ oc ∧ v = .slice (some ⟨b, 0, some 1⟩) out.length (out.length + 1) ∧ h[b]? = some (.row (strs out) true)
theorem OwnRow.strs {B0 l oc : Nat} {h : AHeap} {v : Value} {out : List ByteArray} (o : OwnRow B0 l oc h v out) : ∃ a k, v = .slice a out.length k ∧ Strs h a out := by
  rcases o with ⟨rfl, rfl⟩ | ⟨b, _, _, _, rfl, hb⟩
  · exact ⟨none, 0, rfl, Or.inl rfl, fun i hi => by simp at hi⟩
  · exact ⟨_, _, rfl, Or.inr ⟨b, 0, rfl⟩, fun i hi => ⟨b, 0, _, true, rfl, hb, by rw [Nat.zero_add]; exact strs_get (List.getElem?_eq_getElem hi)⟩⟩
theorem OwnRow.keep {B0 l oc : Nat} {h h' : AHeap} {v : Value} {out : List ByteArray} (o : OwnRow B0 l oc h v out) (hk : ∀ b, b ≠ l → b ≠ oc → (∃ cs, h[b]? = some (.row cs true)) → h'[b]? = h[b]?) : OwnRow B0 l oc h' v out := by
  rcases o with o | ⟨b, h0, h1, h2, rfl, hb⟩
  · exact Or.inl o
  · exact Or.inr ⟨b, h0, h1, h2, rfl, (hk b h1 h2 ⟨_, hb⟩).trans hb⟩
theorem Acc.ownRow {h0 h : AHeap} {v : Value} {out : List ByteArray} (A : Acc h0 h v out) {B0 l oc : Nat} (hB0 : B0 ≤ h0.length) (hl : l < h0.length) (hoc : oc < h0.length) : OwnRow B0 l oc h v out := by
  rcases A.val with e | ⟨b, hb, e, hr⟩
  · exact Or.inl e
  · exact Or.inr ⟨b, by omega, by omega, by omega, e, hr⟩

/-- Between two rounds. -/
structure GOuts (B0 l oc n : Nat) (ts : List Value) (ps : List Tmp) (sa bd : Code) (C : List ByteArray) (L : List (List UInt8)) (h : AHeap) : Prop where
  lp : h[l]? = some (.loop .ready none ts ps sa bd)
  none0 : h[0]? = some noneRow
  out : ∃ v, h[oc]? = some (.row [v] true) ∧ OwnRow B0 l oc h v (growF C L)
  sz : ∀ x ∈ growF C L, x.size = n
theorem GOuts.sit {B0 l oc n : Nat} {ts : List Value} {ps : List Tmp} {sa bd : Code} {C : List ByteArray} {L : List (List UInt8)} {h h' : AHeap} (o : GOuts B0 l oc n ts ps sa bd C L h) (S : Sit h h') : GOuts B0 l oc n ts ps sa bd C L h' := by
  obtain ⟨v, hv, A⟩ := o.out
  refine ⟨?_, ?_, ⟨v, ?_, A.keep (fun b _ _ ⟨cs, hb⟩ => S.row b (lt_of_get hb) (by intro s p; rw [hb]; simp))⟩, o.sz⟩
  · rw [S.row l (lt_of_get o.lp) (by intro s p; rw [o.lp]; simp)]; exact o.lp
  · rw [S.row 0 (lt_of_get o.none0) (by intro s p; rw [o.none0]; simp [noneRow])]; exact o.none0
  · rw [S.row oc (lt_of_get hv) (by intro s p; rw [hv]; simp)]; exact hv

noncomputable def growAs : Code := ((rfAs (Tryd.f41.body.getD .skip)).getD ([], .skip, .skip)).2.1
noncomputable def growBd : Code := ((rfAs (Tryd.f41.body.getD .skip)).getD ([], .skip, .skip)).2.2

theorem gclose {B0 l oc n B : Nat} {ts : List Value} {C : List ByteArray} {L' : List (List UInt8)} {h hb hh : AHeap} {v v' : Value} (hl : l < B) (hoc : oc < B) (hne : oc ≠ l) (hl0 : l ≠ 0) (hoc0 : oc ≠ 0) (hB : B ≤ h.length)
    (lp : h[l]? = some (.loop .ready none ts [28] growAs growBd)) (none0 : h[0]? = some noneRow) (hv : h[oc]? = some (.row [v] true)) (ehb : hb = h.set l (.loop .busy none ts [28] growAs growBd)) (G : Grew hb hh)
    (A : OwnRow B0 l oc hh v' (growF C L')) (sz : ∀ x ∈ growF C L', x.size = n) :
    GOuts B0 l oc n ts [28] growAs growBd C L' ((hh.set oc (.row [v'] true)).set l (.loop .ready none ts [28] growAs growBd)) ∧ Keep B l oc h ((hh.set oc (.row [v'] true)).set l (.loop .ready none ts [28] growAs growBd)) := by
  have hlen : hb.length = h.length := by rw [ehb]; simp
  have hle := G.le
  have hbo : ∀ j, j ≠ l → j < h.length → hh[j]? = h[j]? := by
    intro j hj hjl
    rw [G.get (by omega), ehb, List.getElem?_set_ne (fun e => hj e.symm)]
  refine ⟨⟨List.getElem?_set_self (by simp; omega), ?_, ⟨v', ?_, A.keep (fun b h1 h2 ⟨cs, hb2⟩ => ?_)⟩, sz⟩, ⟨by simp; omega, fun j hj h1 h2 => ?_, fun j s p hj => ?_⟩⟩
  · rw [List.getElem?_set_ne hl0, List.getElem?_set_ne hoc0, hbo 0 (fun e => hl0 e.symm) (by omega)]; exact none0
  · rw [List.getElem?_set_ne (fun e => hne e.symm), List.getElem?_set_self (by omega)]
  · rw [List.getElem?_set_ne (fun e => h1 e.symm), List.getElem?_set_ne (fun e => h2 e.symm)]
  · rw [List.getElem?_set_ne (fun e => h1 e.symm), List.getElem?_set_ne (fun e => h2 e.symm), hbo j h1 (by omega)]
  · have h1 : j ≠ l := by intro e; subst e; rw [lp] at hj; simp at hj
    have h2 : j ≠ oc := by intro e; subst e; rw [hv] at hj; simp at hj
    rw [List.getElem?_set_ne (fun e => h1 e.symm), List.getElem?_set_ne (fun e => h2 e.symm), hbo j h1 (lt_of_get hj)]

structure GrowX (X : Ext) : Prop where
  kp : ExtKp X
  x67 : X 67 = none
  x68 : X 68 = none
  x80 : X 80 = none
  x59 : X 59 = none

set_option maxHeartbeats 2000000 in
theorem grow_yields {X : Ext} (x : GrowX X) {k n B0 l oc B : Nat} {ts : List Value} {C : List ByteArray} (hB0 : B0 ≤ l) (hC : C.length < 10000) (hn : n ≤ 5) (hT : (wordsL k n).length < 100000) (hl : l < B) (hoc : oc < B) (hne : oc ≠ l) (hl0 : l ≠ 0) (hoc0 : oc ≠ 0)
    (hts : ts.length = Tryd.f41.ntmps) (h9 : ts.getD 9 undef = .pointer (some ⟨oc, 0, none⟩)) : Yields X B l oc (wordsL k n) (fun L h => GOuts B0 l oc n ts [28] growAs growBd C L h) where
  sit := fun L h h' o S => o.sit S
  yld := by
    intro L w R h hT' o hB
    have hmem : w ∈ wordsL k n := by rw [← hT']; simp
    obtain ⟨hwn, hwl⟩ := words_mem hmem
    have hsz : (gB w).size = n := hwn
    obtain ⟨v, hv, A⟩ := o.out
    have hlen : L.length + 1 ≤ (wordsL k n).length := by rw [← hT']; simp
    have hout := growF_length C L
    have hlh : l < h.length := lt_of_get o.lp
    have hsnoc := growF_snoc C L w
    have hosz := o.sz
    obtain ⟨out, eout⟩ : ∃ out, out = growF C L := ⟨_, rfl⟩
    rw [← eout] at A hout hsnoc hosz
    have hmsz : ∀ x ∈ out ++ [gB w], x.size = n := by
      intro x hx
      rcases List.mem_append.1 hx with hx | hx
      · exact hosz x hx
      · simp only [List.mem_singleton] at hx; rw [hx]; exact hsz
    have hmlen : (out ++ [gB w]).length = out.length + 1 := by simp
    obtain ⟨ao, ko, rfl, hso⟩ := A.strs
    obtain ⟨hb, ehb⟩ : ∃ hb, hb = h.set l (.loop .busy none ts [28] growAs growBd) := ⟨_, rfl⟩
    have hbl : hb[l]? = some (.loop .busy none ts [28] growAs growBd) := by rw [ehb]; exact List.getElem?_set_self hlh
    have hblen : hb.length = h.length := by rw [ehb]; simp
    have hbo : ∀ j, j ≠ l → hb[j]? = h[j]? := by intro j hj; rw [ehb, List.getElem?_set_ne (fun e => hj e.symm)]
    have Ab : OwnRow B0 l oc hb (.slice ao out.length ko) out := A.keep (fun b h1 _ _ => hbo b h1)
    have hsb : Strs hb ao out := by
      refine ⟨hso.1, fun i hi => ?_⟩
      obtain ⟨b, o2, cs, own, e, hb2, hc⟩ := hso.2 i hi
      refine ⟨b, o2, cs, own, e, ?_, hc⟩
      rw [hbo b (fun e => by rw [e, o.lp] at hb2; simp at hb2)]; exact hb2
    have hbv : hb[oc]? = some (.row [.slice ao out.length ko] true) := (hbo oc hne).trans hv
    have hb0 : hb[0]? = some noneRow := (hbo 0 (fun e => hl0 e.symm)).trans o.none0
    -- the word alone, and both
    obtain ⟨h1, eh1⟩ : ∃ h1, h1 = hb ++ [AObj.row [Value.string (gB w)] true] := ⟨_, rfl⟩
    obtain ⟨h2, eh2⟩ : ∃ h2, h2 = h1 ++ [AObj.row [Value.slice ao out.length ko, Value.slice (some ⟨hb.length, 0, some 1⟩) 1 1] true] := ⟨_, rfl⟩
    have G1 : Grew hb h1 := ⟨_, eh1⟩
    have G2 : Grew h1 h2 := ⟨_, eh2⟩
    have hw1 : h1[hb.length]? = some (.row (strs [gB w]) true) := by rw [eh1, List.getElem?_append_right (Nat.le_refl _)]; simp [strs]
    have hq2 : h2[h1.length]? = some (.row [.slice ao out.length ko, .slice (some ⟨hb.length, 0, some 1⟩) [gB w].length 1] true) := by rw [eh2, List.getElem?_append_right (Nat.le_refl _)]; simp
    have sw2 : Strs h2 (some ⟨hb.length, 0, some 1⟩) [gB w] := ⟨Or.inr ⟨_, _, rfl⟩, fun i hi => ⟨hb.length, 0, _, true, rfl, G2.at hw1, by rw [Nat.zero_add]; exact strs_get (List.getElem?_eq_getElem hi)⟩⟩
    have so2 : Strs h2 ao out := hsb.grow (G1.trans G2)
    have c67 := joined_spec x.x67 h2 h1.length 2 true ao (some ⟨hb.length, 0, some 1⟩) ko 1 out [gB w] hq2 so2 sw2 (by simp; omega)
    -- where nothing is added
    have skip : ∀ hz, Grew hb hz → growStep out w = out → GOuts B0 l oc n ts [28] growAs growBd C (L ++ [w]) (hz.set l (.loop .ready none ts [28] growAs growBd)) ∧ Keep B l oc h (hz.set l (.loop .ready none ts [28] growAs growBd)) := by
      intro hz G hno
      have hs := set_same (G.at hbv)
      have q := gclose (C := C) (L' := L ++ [w]) (hh := hz) (v' := .slice ao out.length ko) hl hoc hne hl0 hoc0 hB o.lp o.none0 hv ehb G (by rw [hsnoc, hno]; exact Ab.keep (fun b _ _ ⟨cs, hb2⟩ => (G.at hb2).trans hb2.symm)) (by rw [hsnoc, hno]; exact hosz)
      rw [← hs] at q
      exact q
    refine Ca_yield o.lp rfl hts ?_
    refine Run 1000 ?_
    refine Fin_e (by kernel_rfl) ⟨rfl, none, ts, [28], growAs, growBd, o.lp, ?_⟩
    have f9 : (ts.set 28 (.string (gB w))).getD 9 undef = .pointer (some ⟨oc, 0, none⟩) := by
      rw [List.getD_eq_getElem?_getD, List.getElem?_set_ne (by omega), ← List.getD_eq_getElem?_getD]; exact h9
    have f28 : (ts.set 28 (.string (gB w))).getD 28 undef = .string (gB w) := by
      rw [List.getD_eq_getElem?_getD, List.getElem?_set_self (by rw [hts]; decide)]; rfl
    refine Fin_known [(9, .pointer (some ⟨oc, 0, none⟩)), (10, .string (gB w))] (Eq.trans (b := [(ts.set 28 (.string (gB w))).getD 9 undef, (ts.set 28 (.string (gB w))).getD 28 undef]) (by kernel_rfl) (by rw [f9, f28]; rfl)) ?_
    rw [← ehb]
    refine Run 1000 ?_
    refine Load 22 (.pointer (some ⟨oc, 0, none⟩)) (.slice ao out.length ko) (by kernel_rfl) (by kernel_rfl) (load_row ti22 rfl hbv rfl) ?_
    refine Run 1000 ?_
    refine Bld 22 1 [(0, .string (gB w))] (.slice (some ⟨hb.length, 0, some 1⟩) 1 1) h1 (by kernel_rfl) (by kernel_rfl) (by rw [eh1]; simp [abuildSlice, ti22, ti9, zerosOf, afill, splice, isCell, Value.cells, isData]) ?_
    refine Run 1000 ?_
    refine Bld 98 2 [(0, .slice ao out.length ko), (1, .slice (some ⟨hb.length, 0, some 1⟩) 1 1)] (.slice (some ⟨h1.length, 0, some 1⟩) 2 2) h2 (by kernel_rfl) (by kernel_rfl) (by rw [eh2]; simp [abuildSlice, ti98, ti22, zerosOf, afill, splice, isCell, Value.cells, isData]) ?_
    refine Run 1000 ?_
    refine Fin_call 67 [.slice (some ⟨h1.length, 0, some 1⟩) 2 2] (by kernel_rfl) (by kernel_rfl) c67 (fun v3 h3 A3 => ?_)
    have G3 : Grew hb h3 := G1.trans (G2.trans A3.grew)
    have A3r := A3.ownRow (B0 := B0) (l := l) (oc := oc) (by have := (G1.trans G2).le; omega) (by have := (G1.trans G2).le; omega) (by have := (G1.trans G2).le; omega)
    obtain ⟨a3, k3, rfl, s3⟩ := A3.as_strs
    refine Run 1000 ?_
    refine DrawR [0] x.kp (by kernel_rfl) (by kernel_rfl) (only0 (G3.at hb0)) ?_
    refine Run 1000 ?_
    refine Load 22 (.pointer (some ⟨oc, 0, none⟩)) (.slice ao out.length ko) (by kernel_rfl) (by kernel_rfl) (load_row ti22 rfl (G3.at hbv) rfl) ?_
    refine Run 1000 ?_
    refine Fin_call 68 [.slice ao out.length ko, .string (gB w)] (by kernel_rfl) (by kernel_rfl) (contains_spec x.x68 x.x80 h3 ao ko out (gB w) (by omega) (hsb.grow G3)) (fun v4 h4 hv4 => ?_)
    obtain ⟨rfl, rfl⟩ := hv4
    obtain ⟨isin, ein⟩ : ∃ b, b = isIn (gB w) out := ⟨_, rfl⟩
    rw [← ein]
    cases isin with
    | true =>
      refine RunA 1000 10 ?_
      obtain ⟨q1, q2⟩ := skip h4 G3 (by unfold growStep; rw [← ein]; rfl)
      exact Fin_e (by kernel_rfl) ⟨.busy, none, ts, [28], growAs, growBd, G3.at hbl, rfl, q1, q2⟩
    | false =>
      refine RunA 1000 1 ?_
      refine Fin_call 59 [.slice a3 (out ++ [gB w]).length k3] (by kernel_rfl) (by kernel_rfl) (clash_spec x.x59 h4 a3 k3 (out ++ [gB w]) n s3 hmsz (by omega) (G3.at hb0) (by omega)) (fun v5 h5 hv5 => ?_)
      obtain ⟨⟨res, rfl, hR⟩, G5⟩ := hv5
      have hfr := trio_facts hmsz res hR
      have G5b := G3.trans G5
      refine Run 1000 ?_
      refine Load 81 (.pointer (some ⟨0, 0, none⟩)) (.agg #[I (-1), I (-1), I (-1)]) (by kernel_rfl) (by kernel_rfl) (load81 (G5b.at hb0)) ?_
      refine Run 1000 ?_
      cases res with
      | none =>
        have hadd : growStep out w = out ++ [gB w] := by
          unfold growStep; rw [← ein, show freeF (out ++ [gB w]) = true from hfr]; rfl
        refine Bin .eql 81 (.agg #[I (-1), I (-1), I (-1)]) (.agg #[I (-1), I (-1), I (-1)]) (.bool true) (by kernel_rfl) (by kernel_rfl) (by kernel_rfl) ?_
        refine RunA 1000 10 ?_
        refine Store 22 (.pointer (some ⟨oc, 0, none⟩)) (.slice a3 (out ++ [gB w]).length k3) (h5.set oc (.row [.slice a3 (out ++ [gB w]).length k3] true)) (by kernel_rfl) (by kernel_rfl) (store_row ti22 rfl rfl rfl rfl (G5b.at hbv) (by simp)) ?_
        refine Run 1000 ?_
        have q := gclose (C := C) (L' := L ++ [w]) (hh := h5) (v' := .slice a3 (out ++ [gB w]).length k3) hl hoc hne hl0 hoc0 hB o.lp o.none0 hv ehb G5b (by rw [hsnoc, hadd]; exact A3r.keep (fun b _ _ ⟨cs, hb2⟩ => (G5.at hb2).trans hb2.symm)) (by rw [hsnoc, hadd]; exact hmsz)
        exact Fin_e (by kernel_rfl) ⟨.busy, none, ts, [28], growAs, growBd, by rw [List.getElem?_set_ne hne]; exact G5b.at hbl, rfl, q.1, q.2⟩
      | some t =>
        obtain ⟨i, j, m⟩ := t
        have hno : growStep out w = out := by
          unfold growStep; rw [← ein, show freeF (out ++ [gB w]) = false from hfr]; rfl
        have hne : ((i : Int) == -1 && ((j : Int) == -1 && ((m : Int) == -1 && true))) = false := by
          have : ((i : Int) == -1) = false := by simp
          rw [this]; rfl
        refine Bin .eql 81 (.agg #[I i, I j, I m]) (.agg #[I (-1), I (-1), I (-1)]) (.bool false) (by kernel_rfl) (by kernel_rfl) (Eq.trans (b := some (.bool ((i : Int) == -1 && ((j : Int) == -1 && ((m : Int) == -1 && true))))) (by kernel_rfl) (by rw [hne])) ?_
        refine RunA 1000 10 ?_
        obtain ⟨q1, q2⟩ := skip h5 G5b hno
        exact Fin_e (by kernel_rfl) ⟨.busy, none, ts, [28], growAs, growBd, G5b.at hbl, rfl, q1, q2⟩
end Go.Proofs.YtpbmpdocgplhpaaDoor
