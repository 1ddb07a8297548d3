/-
  flag.rings and flag.Rings.
-/
import Derived.Test.YtpbmpdocgplhpaaDoorWhole
set_option linter.unusedSimpArgs false
set_option linter.unusedVariables false
set_option maxRecDepth 100000
namespace Go.Proofs.YtpbmpdocgplhpaaDoor
open Go Go.AM

/-- The words of a length over letters. -/
theorem grow_mem (cs : List UInt8) : ∀ (d : Nat) (p w : List UInt8), w ∈ growL cs d p → w.length = p.length + d ∧ ∀ c ∈ w, c ∈ p ∨ c ∈ cs := by
  intro d
  induction d with
  | zero => intro p w hw; simp only [growL, List.mem_singleton] at hw; subst hw; exact ⟨rfl, fun c hc => Or.inl hc⟩
  | succ d ih =>
    intro p w hw
    simp only [growL, List.mem_flatMap] at hw
    obtain ⟨c, hc, hw⟩ := hw
    obtain ⟨h1, h2⟩ := ih _ _ hw
    refine ⟨by simp at h1; omega, fun x hx => ?_⟩
    rcases h2 x hx with h | h
    · simp only [List.mem_append, List.mem_singleton] at h
      rcases h with h | rfl
      · exact Or.inl h
      · exact Or.inr hc
    · exact Or.inr h
theorem ascii_letters {w : List UInt8} (h : ∀ c ∈ w, c ∈ [(97 : UInt8), 98, 99, 100]) : ascii (gB w) := by
  intro i hi
  have hm : (gB w)[i]'hi ∈ w := List.getElem_mem (l := w) (n := i) (by simpa [gB_size] using hi)
  have := h _ hm
  generalize (gB w)[i]'hi = z at this
  simp only [List.mem_cons, List.not_mem_nil, or_false] at this
  rcases this with rfl | rfl | rfl | rfl <;> decide
theorem words_mem {k n : Nat} {w : List UInt8} (h : w ∈ wordsL k n) : w.length = n ∧ ∀ c ∈ w, c ∈ [(97 : UInt8), 98, 99, 100] := by
  obtain ⟨h1, h2⟩ := grow_mem _ _ _ _ h
  refine ⟨by simpa using h1, fun c hc => ?_⟩
  rcases h2 c hc with h | h
  · simp at h
  · exact List.mem_of_mem_take h

theorem Acc.more {h0 h h' : AHeap} {v : Value} {L : List ByteArray} (A : Acc h0 h v L) (g : Grew h h') : Acc h0 h' v L := by
  refine ⟨Nat.le_trans A.le g.le, fun j hj => (g.get (Nat.lt_of_lt_of_le hj A.le)).trans (A.old j hj), ?_⟩
  rcases A.val with hv | ⟨b, hb, hv, hr⟩
  · exact Or.inl hv
  · exact Or.inr ⟨b, hb, hv, g.at hr⟩
theorem Acc.reset {h0 h : AHeap} {v : Value} {L : List ByteArray} (A : Acc h0 h v L) {j : Nat} (hj : j < h0.length) (o : AObj) : Acc (h0.set j o) (h.set j o) v L := by
  have hle := A.le
  refine ⟨by simpa using A.le, fun i hi => ?_, ?_⟩
  · simp only [List.length_set] at hi
    by_cases e : j = i
    · subst e; rw [List.getElem?_set_self (by omega), List.getElem?_set_self (by omega)]
    · rw [List.getElem?_set_ne e, List.getElem?_set_ne e]; exact A.old i hi
  · rcases A.val with hv | ⟨b, hb, hv, hr⟩
    · exact Or.inl hv
    · refine Or.inr ⟨b, by simpa using hb, hv, ?_⟩
      rw [List.getElem?_set_ne (by omega)]; exact hr
theorem take_set {h : AHeap} {B j : Nat} (o : AObj) : (h.set j o).take B = (h.take B).set j o := by rw [List.take_set]

/-- Between two rounds of a range over the words: the output so far stands in the variable oc. -/
structure Outs (l oc B : Nat) (ts : List Value) (ps : List Tmp) (sa bd : Code) (F : List (List UInt8) → List ByteArray) (L : List (List UInt8)) (h : AHeap) : Prop where
  lp : h[l]? = some (.loop .ready none ts ps sa bd)
  out : ∃ v, h[oc]? = some (.row [v] true) ∧ Acc (h.take B) h v (F L)
  le : B ≤ h.length
theorem Outs.sit {l oc B : Nat} {ts : List Value} {ps : List Tmp} {sa bd : Code} {F : List (List UInt8) → List ByteArray} {L : List (List UInt8)} {h h' : AHeap} (o : Outs l oc B ts ps sa bd F L h) (S : Sit h h') : Outs l oc B ts ps sa bd F L h' := by
  obtain ⟨v, hv, A⟩ := o.out
  refine ⟨?_, ⟨v, ?_, ?_⟩, Nat.le_trans o.le S.len⟩
  · rw [S.row l (lt_of_get o.lp) (by intro s p; rw [o.lp]; simp)]; exact o.lp
  · rw [S.row oc (lt_of_get hv) (by intro s p; rw [hv]; simp)]; exact hv
  · have h1 := o.le; have h2 := S.len
    refine ⟨by simp; omega, fun j hj => ?_, ?_⟩
    · simp at hj; rw [List.getElem?_take, if_pos (by omega)]
    · rcases A.val with e | ⟨b, hb, e, hr⟩
      · exact Or.inl e
      · refine Or.inr ⟨b, ?_, e, ?_⟩
        · simp at hb ⊢; omega
        · rw [S.row b (lt_of_get hr) (by intro s p; rw [hr]; simp)]; exact hr

def ringOK (w : List UInt8) : Bool := wholeL w && eqL w (firstL w)
theorem ti22' : ti Tryd.prog 22 = some ⟨.slice 9, 1, 24, .slice none 0 0⟩ := ti22

/-- The range's code in 'rings'. -/
def rfAs : Code → Option (List Tmp × Code × Code)
  | .seq a b => (match rfAs a with | some q => some q | none => rfAs b)
  | .block _ c => rfAs c
  | .scope c => rfAs c
  | .rangeFunc _ ps sa bd => some (ps.toList, sa, bd)
  | _ => none
noncomputable def ringAs : Code := ((rfAs (Tryd.f50.body.getD .skip)).getD ([], .skip, .skip)).2.1
noncomputable def ringBd : Code := ((rfAs (Tryd.f50.body.getD .skip)).getD ([], .skip, .skip)).2.2

structure RingX (X : Ext) : Prop where
  s : SortX X
  x50 : X 50 = none
  x58 : X 58 = none
  x61 : X 61 = none
  x62 : X 62 = none
  x63 : X 63 = none
  x76 : X 76 = none
  x77 : X 77 = none

def ringOut (L : List (List UInt8)) : List ByteArray := (L.filter ringOK).map gB

theorem Acc.own {h0 h : AHeap} {v : Value} {L : List ByteArray} (A : Acc h0 h v L) {B : Nat} (hB : B ≤ h0.length) : Acc (h.take B) h v L := by
  have := A.le
  refine ⟨by simp; omega, fun j hj => ?_, ?_⟩
  · simp at hj; rw [List.getElem?_take, if_pos (by omega)]
  · rcases A.val with e | ⟨b, hb, e, hr⟩
    · exact Or.inl e
    · exact Or.inr ⟨b, by simp; omega, e, hr⟩
theorem Outs.close {l oc B : Nat} {ts : List Value} {ps : List Tmp} {sa bd : Code} {F : List (List UInt8) → List ByteArray} {L' : List (List UInt8)} {h hz : AHeap} {v' : Value} {o : AObj} (hl : l < B) (hoc : oc < B) (hne : oc ≠ l)
    (hlp : h[l]? = some (.loop .ready none ts ps sa bd)) (lpz : hz[l]? = some o) (outz : hz[oc]? = some (.row [v'] true)) (A : Acc (hz.take B) hz v' (F L')) (hB : B ≤ h.length) (le : h.length ≤ hz.length)
    (low : ∀ j, j < B → j ≠ l → j ≠ oc → hz[j]? = h[j]?) (sit : ∀ (j : Nat) (s : ByteArray) (p : Nat), h[j]? = some (AObj.siter s p) → hz[j]? = h[j]?) :
    Outs l oc B ts ps sa bd F L' (hz.set l (.loop .ready none ts ps sa bd)) ∧ Keep B l oc h (hz.set l (.loop .ready none ts ps sa bd)) := by
  have hlz : l < hz.length := lt_of_get lpz
  refine ⟨⟨List.getElem?_set_self hlz, ⟨v', ?_, ?_⟩, by simp; omega⟩, ⟨by simpa using le, fun j hj h1 h2 => ?_, fun j s p hj => ?_⟩⟩
  · rw [List.getElem?_set_ne (fun e => hne e.symm)]; exact outz
  · rw [take_set]; exact A.reset (by simp; omega) _
  · rw [List.getElem?_set_ne (fun e => h1 e.symm)]; exact low j hj h1 h2
  · have : l ≠ j := by intro e; subst e; rw [hlp] at hj; simp at hj
    rw [List.getElem?_set_ne this]; exact sit j s p hj

theorem ring_yields {X : Ext} (x : RingX X) {k n l oc B : Nat} {ts : List Value} (hn1 : 1 ≤ n) (hn : n ≤ 5) (hT : (wordsL k n).length < 1000000) (hl : l < B) (hoc : oc < B) (hne : oc ≠ l)
    (hts : ts.length = Tryd.f50.ntmps) (h5 : ts.getD 5 undef = .pointer (some ⟨oc, 0, none⟩)) : Yields X B l oc (wordsL k n) (fun L h => Outs l oc B ts [10] ringAs ringBd ringOut L h) where
  sit := fun L h h' o S => o.sit S
  yld := by
    intro L w R h hT' o hB
    have hmem : w ∈ wordsL k n := by rw [← hT']; simp
    obtain ⟨hwn, hwl⟩ := words_mem hmem
    have hasc := ascii_letters hwl
    have hsz : (gB w).size = n := hwn
    obtain ⟨v, hv, A⟩ := o.out
    have hlen : L.length + 1 ≤ (wordsL k n).length := by rw [← hT']; simp
    have hlh : l < h.length := lt_of_get o.lp
    refine Ca_yield o.lp rfl hts ?_
    refine Run 1000 ?_
    refine Fin_e (by kernel_rfl) ⟨rfl, none, ts, [10], ringAs, ringBd, o.lp, ?_⟩
    have f5 : (ts.set 10 (.string (gB w))).getD 5 undef = .pointer (some ⟨oc, 0, none⟩) := by
      rw [List.getD_eq_getElem?_getD, List.getElem?_set_ne (by omega), ← List.getD_eq_getElem?_getD]; exact h5
    have f10 : (ts.set 10 (.string (gB w))).getD 10 undef = .string (gB w) := by
      rw [List.getD_eq_getElem?_getD, List.getElem?_set_self (by rw [hts]; decide)]; rfl
    refine Fin_known [(5, .pointer (some ⟨oc, 0, none⟩)), (6, .string (gB w))] (Eq.trans (b := [(ts.set 10 (.string (gB w))).getD 5 undef, (ts.set 10 (.string (gB w))).getD 10 undef]) (by kernel_rfl) (by rw [f5, f10]; rfl)) ?_
    obtain ⟨hb, ehb⟩ : ∃ hb, hb = h.set l (.loop .busy none ts [10] ringAs ringBd) := ⟨_, rfl⟩
    have hbl : hb[l]? = some (.loop .busy none ts [10] ringAs ringBd) := by rw [ehb]; exact List.getElem?_set_self hlh
    have hblen : hb.length = h.length := by rw [ehb]; simp
    have hbo : ∀ j, j ≠ l → hb[j]? = h[j]? := by intro j hj; rw [ehb, List.getElem?_set_ne (fun e => hj e.symm)]
    have hbA : Acc (hb.take B) hb v (ringOut L) := by
      rw [ehb, take_set]; exact A.reset (by simp; omega) _
    have hbv : hb[oc]? = some (.row [v] true) := (hbo oc hne).trans hv
    rw [← ehb]
    -- what follows where nothing is added
    have skip : ∀ hz, Grew hb hz → ringOK w = false → Outs l oc B ts [10] ringAs ringBd ringOut (L ++ [w]) (hz.set l (.loop .ready none ts [10] ringAs ringBd)) ∧ Keep B l oc h (hz.set l (.loop .ready none ts [10] ringAs ringBd)) := by
      intro hz G hno
      have hF : ringOut (L ++ [w]) = ringOut L := by simp [ringOut, hno]
      refine Outs.close hl hoc hne o.lp (G.at hbl) (G.at hbv) ?_ hB (by rw [← hblen]; exact G.le) (fun j hj h1 h2 => ?_) (fun j s p hj => ?_)
      · rw [hF]; exact (hbA.more G).own (by simp; omega)
      · rw [G.get (by omega)]; exact hbo j h1
      · have h1 : j ≠ l := by intro e; subst e; rw [o.lp] at hj; simp at hj
        rw [G.get (by have := lt_of_get hj; omega)]; exact hbo j h1
    refine Run 1000 ?_
    refine Fin_call 61 [.string (gB w)] (by kernel_rfl) (by kernel_rfl) (whole_spec x.x61 x.x63 x.s (gB w) hasc (by omega) (by omega) hb) (fun v1 hh1 hv1 => ?_)
    obtain ⟨rfl, G1⟩ := hv1
    rw [whole_gB]
    refine Run 1000 ?_
    refine Fin_gB (wholeL w) (by kernel_rfl) (by kernel_rfl) ?_
    cases hW : wholeL w with
    | false =>
      refine Run 1000 ?_
      refine Fin_cB false (by kernel_rfl) ?_
      refine Run 1000 ?_
      obtain ⟨q1, q2⟩ := skip hh1 G1 (by simp [ringOK, hW])
      exact Fin_e (by kernel_rfl) ⟨.busy, none, ts, [10], ringAs, ringBd, G1.at hbl, rfl, q1, q2⟩
    | true =>
      refine Run 1000 ?_
      refine Fin_call 63 [.string (gB w)] (by kernel_rfl) (by kernel_rfl) (turns_spec x.x63 (gB w) hasc (by omega) hh1) (fun v3 hh3 A3 => ?_)
      have G3 := G1.trans A3.grew
      refine Run 1000 ?_
      refine Fin_call 62 [v3] (by kernel_rfl) (by kernel_rfl) (first_spec x.x62 (gB w) hh1 hh3 v3 A3 (by omega) (by omega)) (fun v4 hh4 hv4 => ?_)
      obtain ⟨rfl, rfl⟩ := hv4
      rw [first_gB]
      refine Run 1000 ?_
      refine Fin_cB (eqL w (firstL w)) (by kernel_rfl) ?_
      cases hE : eqL w (firstL w) with
      | false =>
        refine Run 1000 ?_
        obtain ⟨q1, q2⟩ := skip hh4 G3 (by simp [ringOK, hE])
        exact Fin_e (by kernel_rfl) ⟨.busy, none, ts, [10], ringAs, ringBd, G3.at hbl, rfl, q1, q2⟩
      | true =>
        have hok : ringOK w = true := by simp [ringOK, hW, hE]
        have hF : ringOut (L ++ [w]) = ringOut L ++ [gB w] := by simp [ringOut, hok]
        have hov := G3.at hbv
        have h4len : h.length ≤ hh4.length := by rw [← hblen]; exact G3.le
        have A4 : Acc (hh4.take B) hh4 v (ringOut L) := (hbA.more G3).own (by simp; omega)
        obtain ⟨v', h', ha, A', hle, hkeep⟩ := Acc.app A4 (gB w) (by have : (ringOut L).length ≤ L.length := by { simp only [ringOut, List.length_map]; exact List.length_filter_le _ _ }
                                                                     omega)
        have hlow : ∀ j, j < B → h'[j]? = hh4[j]? := by
          intro j hj; rw [A'.old j (by simp; omega), List.getElem?_take, if_pos hj]
        refine Run 1000 ?_
        refine Load 22 (.pointer (some ⟨oc, 0, none⟩)) v (by kernel_rfl) (by kernel_rfl) (load_row ti22 rfl hov rfl) ?_
        refine Run 1000 ?_
        refine Bld 22 1 [(0, .string (gB w))] (.slice (some ⟨hh4.length, 0, some 1⟩) 1 1) (hh4 ++ [AObj.row [Value.string (gB w)] true]) (by kernel_rfl) (by kernel_rfl) (by simp [abuildSlice, ti22, ti9, zerosOf, afill, splice, isCell, Value.cells, isData]) ?_
        refine Run 1000 ?_
        refine App 22 22 v (.slice (some ⟨hh4.length, 0, some 1⟩) 1 1) v' h' (by kernel_rfl) (by kernel_rfl) Tryd.underlying22 (by simp) ha ?_
        refine Run 1000 ?_
        have hov' : h'[oc]? = some (.row [v] true) := (hlow oc hoc).trans hov
        have hvv : v'.cells = #[v'] ∧ isData v' = true ∧ isCell v' = true := by
          rcases A'.val with ⟨_, e⟩ | ⟨b, _, e, _⟩ <;> rw [e] <;> exact ⟨rfl, rfl, rfl⟩
        refine Store 22 (.pointer (some ⟨oc, 0, none⟩)) v' (h'.set oc (.row [v'] true)) (by kernel_rfl) (by kernel_rfl) (store_row ti22 rfl hvv.1 hvv.2.1 hvv.2.2 hov' (by simp)) ?_
        refine Run 1000 ?_
        have hocl : oc < h'.length := lt_of_get hov'
        have q := Outs.close (F := ringOut) (L' := L ++ [w]) (h := h) (hz := h'.set oc (.row [v'] true)) (v' := v') (ts := ts) (ps := [10]) (sa := ringAs) (bd := ringBd) (o := .loop .busy none ts [10] ringAs ringBd) hl hoc hne o.lp (by rw [List.getElem?_set_ne hne, hlow l hl]; exact G3.at hbl) (List.getElem?_set_self hocl)
          (by rw [hF, take_set]; exact (A'.own (B := B) (by simp; omega)).reset (by simp; omega) _) hB (by simp; omega) (fun j hj h1 h2 => by rw [List.getElem?_set_ne (fun e => h2 e.symm), hlow j hj, G3.get (by omega)]; exact hbo j h1)
          (fun j s p hj => by
            have hjl := lt_of_get hj
            have h1 : j ≠ l := by intro e; subst e; rw [o.lp] at hj; simp at hj
            have h2 : oc ≠ j := by intro e; subst e; rw [hv] at hj; simp at hj
            have h3 : hh4[j]? = h[j]? := by rw [G3.get (by omega)]; exact hbo j h1
            rw [List.getElem?_set_ne h2, hkeep j (by intro cs; rw [h3, hj]; simp) (by omega)]; exact h3)
        exact Fin_e (by kernel_rfl) ⟨.busy, none, ts, [10], ringAs, ringBd, by rw [List.getElem?_set_ne hne, hlow l hl]; exact G3.at hbl, rfl, q.1, q.2⟩
end Go.Proofs.YtpbmpdocgplhpaaDoor
