/-
  THE ABSTRACT EXECUTOR: append, make, literals, iterators; every operation but calls.
-/
import Derived.Test.YtknpjlcgjlnfbaaGreatDoorAm8
set_option linter.unusedSimpArgs false
set_option linter.unusedVariables false
namespace Go.AM
variable {P : Program} {ρ : Rho} {G : Nat} {h : AHeap} {w : World}

/-- What a computation of one value comes to. -/
def OutV (G : Nat) (P : Program) (ρ : Rho) (h : AHeap) (w : World) (s : Sem Value) (v : Value) (h' : AHeap) : Prop :=
  ∃ (ρ' : Rho) (v' : Value) (w' : World), s.run P w = .ok v' w' ∧ VRel ρ' v v' ∧ HRel G ρ' h' w' ∧ Fr ρ h w ρ' h' w'
theorem OutV.out {s : Sem Value} {v : Value} {h' : AHeap} (k : OutV G P ρ h w s v h') : Out G P ρ h w (do pure (.value (← s))) v h' := by
  obtain ⟨ρ', v', w', h1, h2, h3, h4⟩ := k
  exact ⟨ρ', v', w', _, by simp [h1], Or.inl rfl, h2, h3, h4⟩
theorem AlV.out {s : Sem Value} {mk : Nat → Value} {x : AObj} (H : HRel G ρ h w) (A : AlV G P ρ w s mk x) : OutV G P ρ h w s (mk h.length) (h ++ [x]) := by
  obtain ⟨v', oc, sh, en, hr, _, ho, hv⟩ := A
  obtain ⟨k1, k2⟩ := H.alloc (oc := oc) (oa := x) (sh := sh) (en := en) (ho _ _ (H.updLe _) (heap_push_new w oc))
  exact ⟨_, v', _, hr, hv _ _ (upd_same _ _ _), k1, k2⟩


theorem run_append_grow' {sT xT ty e : TypeId} {ie : TI} {d : TypeDesc} (ht : P.underlying sT = some (.slice e)) (hie : ti P e = some ie) (hu : P.underlying xT = some d) (hd : ∀ k, d ≠ .int k)
    {base : Option Addr} {sLen sCap n : Nat} {x' : Value} {olds news : List Value} (hn : (Builtin.lenOf x').run P w = .ok n w) (hg : sCap < sLen + n) (h32 : sLen + n ≤ lim) (hb : ie.bytes ≤ limBytes)
    (ho : (Builtin.firstCells ie.size sLen (.slice base sLen sCap)).run P w.drew = .ok olds.toArray w.drew) (hx : (Builtin.firstCells ie.size n x').run P w.drew = .ok news.toArray w.drew) :
    (Builtin.append_ #[sT, xT] ty #[.slice base sLen sCap, x']).run P w =
      .ok (.slice (some ⟨w.heap.size, 0, none⟩) (sLen + n) (grownCap w (sLen + n) sCap e))
        (w.drew.alloc (.cells (olds.toArray ++ news.toArray ++ Builtin.zeroCells ie.zero.cells (grownCap w (sLen + n) sCap e - (sLen + n))) e)) := by
  obtain ⟨hue, i, hi, hs, hby, hz⟩ := ti_spec hie
  have hn1 : ¬ (sLen + n ≤ sCap) := by omega
  have hlim : lim = 4294967296 := rfl
  have hlb : limBytes = 4096 := rfl
  have h63' : ¬ (9223372036854775807 < ((sLen : Int) + (n : Int))) := by omega
  have hmul : (sLen + n) * ie.bytes ≤ 4294967296 * 4096 := Nat.mul_le_mul (by omega) (by omega)
  have hfit := growslice_fits hg (bytes := ie.bytes) (by omega)
  have h48' : ¬ (281474976710656 < Builtin.nextslicecap (sLen + n) sCap * i.bytes) := by rw [hby]; omega
  rw [← hs] at ho hx
  cases d <;> first
    | (exact absurd rfl (hd _))
    | (simp only [Builtin.append_, Sem.run_bind, run_und ht, run_und hu, Result.andThen_ok, List.getElem?_toArray, List.getElem?_cons_zero, List.getElem?_cons_succ, Sem.run_pure]
       simp [hn, hn1, sizeOf, typeInfo, zeroValue, hi, hz, h63', h48', Question.forced, ho, hx, newRow, grownCap]
       congr 2
       apply Array.toList_inj.1
       simp)

theorem run_append_room' {sT xT ty e : TypeId} {ie : TI} {d : TypeDesc} (ht : P.underlying sT = some (.slice e)) (hie : ti P e = some ie) (hu : P.underlying xT = some d) (hd : ∀ k, d ≠ .int k)
    {a : Addr} {sLen sCap n : Nat} {x' : Value} {news : List Value} {w' : World} (hn : (Builtin.lenOf x').run P w = .ok n w) (hg : sLen + n ≤ sCap)
    (hx : (Builtin.firstCells ie.size n x').run P w = .ok news.toArray w) (hst : (storeCells (a.add (sLen * ie.size)) news).run P w = .ok () w') :
    (Builtin.append_ #[sT, xT] ty #[.slice (some a) sLen sCap, x']).run P w = .ok (.slice (some a) (sLen + n) sCap) w' := by
  obtain ⟨hue, i, hi, hs, hby, hz⟩ := ti_spec hie
  rw [← hs] at hx hst
  cases d <;> first
    | (exact absurd rfl (hd _))
    | (simp only [Builtin.append_, Sem.run_bind, run_und ht, run_und hu, Result.andThen_ok, List.getElem?_toArray, List.getElem?_cons_zero, List.getElem?_cons_succ, Sem.run_pure]
       simp [hn, hg, sizeOf, typeInfo, zeroValue, hi, hz, hx, hst])

theorem run_append_none {sT xT ty e : TypeId} {ie : TI} {d : TypeDesc} (ht : P.underlying sT = some (.slice e)) (hie : ti P e = some ie) (hu : P.underlying xT = some d) (hd : ∀ k, d ≠ .int k)
    {base : Option Addr} {sLen sCap : Nat} {x' : Value} {news : List Value} (hn : (Builtin.lenOf x').run P w = .ok 0 w) (hg : sLen ≤ sCap)
    (hx : (Builtin.firstCells ie.size 0 x').run P w = .ok #[] w) :
    (Builtin.append_ #[sT, xT] ty #[.slice base sLen sCap, x']).run P w = .ok (.slice base sLen sCap) w := by
  obtain ⟨hue, i, hi, hs, hby, hz⟩ := ti_spec hie
  rw [← hs] at hx
  cases d <;> first
    | (exact absurd rfl (hd _))
    | (simp only [Builtin.append_, Sem.run_bind, run_und ht, run_und hu, Result.andThen_ok, List.getElem?_toArray, List.getElem?_cons_zero, List.getElem?_cons_succ, Sem.run_pure]
       cases base <;> simp [hn, hg, sizeOf, typeInfo, zeroValue, hi, hz, hx, storeCells])

theorem cut_ge (w : World) (need old : Nat) (e : TypeId) : need ≤ grownCap w need old e := by
  unfold grownCap Question.cut
  exact Nat.le_add_right _ _

/-- The end of an append that makes a new row. -/
theorem grown_out (H : HRel G ρ h w) {e : TypeId} {ie : TI} (hie : ti P e = some ie) {cells cells' : List Value} (hc : LRel ρ cells cells') {need cap : Nat} (hlen : cells.length = need * ie.size) (hcap : need ≤ cap) {h0 : AHeap} {w0 : World} {ρ0 : Rho} (F : Fr ρ0 h0 w0 ρ h w)
    {s : Sem Value} (hr : s.run P w0 = .ok (.slice (some ⟨w.heap.size, 0, none⟩) need cap) (w.alloc (.cells (cells'.toArray ++ Builtin.zeroCells ie.zero.cells (cap - need)) e))) :
    OutV G P ρ0 h0 w0 s (.slice (some ⟨h.length, 0, some ie.size⟩) need (need + 1)) (h ++ [.row cells true]) := by
  have hz : (Builtin.zeroCells ie.zero.cells (cap - need)).size = (cap - need) * ie.size := by
    rw [← ti_size hie]; simp [Builtin.zeroCells]
  obtain ⟨h1, h2⟩ := new_row H hc (Builtin.zeroCells ie.zero.cells (cap - need)).toList e
  have ea : (cells' ++ (Builtin.zeroCells ie.zero.cells (cap - need)).toList).toArray = cells'.toArray ++ Builtin.zeroCells ie.zero.cells (cap - need) := by
    apply Array.toList_inj.1; simp
  rw [ea] at h1 h2
  refine ⟨_, _, _, hr, ?_, h1, F.trans h2⟩
  have hl := hc.length
  refine VRel.slice (p := ⟨w.heap.size, 0, _⟩) (upd_same _ _ _) hcap ?_ (by omega)
  simp only [Array.length_toList, hz]
  have : cap * ie.size = need * ie.size + (cap - need) * ie.size := by rw [← Nat.add_mul]; congr 1; omega
  omega

theorem aappend_sound (H : HRel G ρ h w) {sT xT ty : TypeId} {d : TypeDesc} (hu : P.underlying xT = some d) (hd : ∀ k, d ≠ .int k) {s s' x x' v : Value} {h' : AHeap} (hs : VRel ρ s s') (hx : VRel ρ x x')
    (ha : aappend P h sT s x = some (v, h')) : OutV G P ρ h w (Builtin.append_ #[sT, xT] ty #[s', x']) v h' := by
  unfold aappend at ha
  split at ha
  · rename_i e s1 s2 s3 a len k m ht hm
    have htu := (ti_spec ht).1
    split at ha
    · rename_i ie hie
      split at ha
      · -- nothing is appended
        rename_i hm0
        subst hm0
        simp only [Option.some.injEq, Prod.mk.injEq] at ha
        obtain ⟨rfl, rfl⟩ := ha
        have hl0 : (Builtin.lenOf x').run P w = .ok 0 w ∧ (Builtin.firstCells ie.size 0 x').run P w = .ok #[] w := by
          cases hx <;> simp [elemsLen] at hm
          · rename_i s0
            subst hm
            exact ⟨rfl, by simp only [Builtin.firstCells, Sem.run_pure]; congr 1; apply Array.eq_empty_of_size_eq_zero; simp [ByteArray.data_extract]⟩
          · exact ⟨rfl, rfl⟩
          · subst hm; exact ⟨rfl, by simp [Builtin.firstCells, loadCells, loadCellsFrom]⟩
          · exact ⟨rfl, by simp [Builtin.firstCells, loadCells, loadCellsFrom]⟩
        cases hs with
        | nilslice => exact ⟨ρ, _, w, run_append_none (news := []) htu hie hu hd hl0.1 (Nat.le_refl _) hl0.2, .nilslice, H, .refl _ _ _⟩
        | slice hp hl hc hk => exact ⟨ρ, _, w, run_append_none (news := []) htu hie hu hd hl0.1 hl hl0.2, .slice hp hl hc hk, H, .refl _ _ _⟩
        | slice0 => exact ⟨ρ, _, w, run_append_none (news := []) htu hie hu hd hl0.1 (Nat.le_refl _) hl0.2, .slice0 _ _ _ _ _, H, .refl _ _ _⟩
      · rename_i hm0
        split at ha
        · rename_i hcond
          simp only [Bool.and_eq_true, decide_eq_true_eq] at hcond
          obtain ⟨⟨hlim, hby⟩, hsz⟩ := hcond
          split at ha
          · -- a nil slice
            rename_i new hnew
            simp only [Option.some.injEq, Prod.mk.injEq] at ha
            obtain ⟨rfl, rfl⟩ := ha
            obtain ⟨e1, new', e2, e3, e4⟩ := loadElems_sound (P := P) H hx hm hnew
            obtain ⟨f1, new2, f2, f3, f4⟩ := loadElems_sound (P := P) H.drew hx hm hnew
            cases hs
            have hrun := run_append_grow' (ty := ty) (base := none) (sLen := 0) (sCap := 0) (olds := []) htu hie hu hd e1 (by omega) (by omega) hby (by simp [Builtin.firstCells]) f2
            simp only [Nat.zero_add, List.nil_append] at *
            refine grown_out H.drew hie f3 f4 (cut_ge w m 0 e) (Fr.drew ρ h w) ?_
            rw [hrun]
            simp
          · rename_i new b o sz hnew
            split at ha
            · rename_i hsz'
              subst hsz'
              split at ha
              · rename_i old cs own hold hb
                obtain ⟨e1, new', e2, e3, e4⟩ := loadElems_sound (P := P) H hx hm hnew
                obtain ⟨f1, new2, f2, f3, f4⟩ := loadElems_sound (P := P) H.drew hx hm hnew
                -- what a growing append comes to
                have grow : ∀ {base : Option Addr} {cap : Nat} {old2 : List Value}, cap < len + m → LRel ρ old old2 → (Builtin.firstCells ie.size len (.slice base len cap)).run P w.drew = .ok old2.toArray w.drew → ∀ {hk : AHeap}, HRel G ρ hk w → Fr ρ h w ρ hk w → old.length = len * ie.size → hk.length = h.length →
                    OutV G P ρ h w (Builtin.append_ #[sT, xT] ty #[.slice base len cap, x']) (.slice (some ⟨h.length, 0, some ie.size⟩) (len + m) (len + m + 1)) (hk ++ [.row (old ++ new) true]) := by
                  intro base cap old2 hlt ho2 hrun2 hk Hk Fk hol hkl
                  have hrun := run_append_grow' (ty := ty) (base := base) (sLen := len) (sCap := cap) (olds := old2) htu hie hu hd e1 hlt hlim hby hrun2 f2
                  have := grown_out (P := P) (G := G) (s := Builtin.append_ #[sT, xT] ty #[.slice base len cap, x']) Hk.drew hie (ho2.append f3) (need := len + m) (cap := grownCap w (len + m) cap e) (by simp [hol, f4, Nat.add_mul]) (cut_ge w _ _ e) (Fk.trans (Fr.drew ρ hk w)) (by
                    rw [hrun]; congr 3; apply Array.toList_inj.1; simp)
                  rw [hkl] at this; exact this
                have oldLen : old.length = len * ie.size := by
                  unfold loadN at hold; split at hold
                  · split at hold
                    · simp only [Option.some.injEq] at hold; subst hold; simp; omega
                    · simp at hold
                  · simp at hold
                split at ha
                · -- no room: a new row; the old one stays
                  rename_i hkl
                  simp only [Option.some.injEq, Prod.mk.injEq] at ha
                  obtain ⟨rfl, rfl⟩ := ha
                  cases hs with
                  | slice hp hl hc hk =>
                    have hcap := hk hkl
                    subst hcap
                    obtain ⟨old', g1, g2, g3, _⟩ := loadN_sound (P := P) H.drew hp hold
                    exact grow (by omega) g2 (by simpa [Builtin.firstCells] using g1) H (.refl _ _ _) oldLen rfl
                  | slice0 =>
                    have ho : old = [] := by apply List.eq_nil_of_length_eq_zero; omega
                    subst ho
                    exact grow (old2 := []) (by omega) .nil (by simp [Builtin.firstCells, loadCells, loadCellsFrom]) H (.refl _ _ _) oldLen rfl
                · split at ha
                  · -- the old row is given up
                    rename_i hkl hown
                    simp only [Bool.and_eq_true] at hown
                    obtain ⟨hown, hcell⟩ := hown
                    subst hown
                    simp only [Option.some.injEq, Prod.mk.injEq] at ha
                    obtain ⟨rfl, rfl⟩ := ha
                    have hbl := lt_of_get hb
                    obtain ⟨Hk, Fk⟩ := H.kill hbl
                    cases hs with
                    | slice0 =>
                      have ho : old = [] := by apply List.eq_nil_of_length_eq_zero; omega
                      subst ho
                      exact grow (old2 := []) (by omega) .nil (by simp [Builtin.firstCells, loadCells, loadCellsFrom]) Hk Fk oldLen (by simp)
                    | slice hp hl hc hk =>
                      rename_i p cap
                      by_cases hroom : len + m ≤ cap
                      · -- in place
                        obtain ⟨c, tt, fz, g1, g2, g3, g4, g5⟩ := H.obj b _ p hb hp
                        obtain ⟨g6, g7⟩ := g5 rfl
                        have hcm : (len + m) * ie.size ≤ cap * ie.size := Nat.mul_le_mul_right _ hroom
                        rw [Nat.add_mul] at hcm
                        have hnl := e3.length
                        have hcell' : ∀ v ∈ new', isCell v = true := by
                          intro v hvm
                          obtain ⟨i, hi, rfl⟩ := List.getElem_of_mem hvm
                          obtain ⟨v', x1, x2⟩ := e3.get? (i := i) (v := new[i]'(by omega)) (by simp)
                          rw [List.getElem?_eq_getElem hi] at x1
                          simp only [Option.some.injEq] at x1
                          rw [x1, x2.isCell]
                          exact List.all_eq_true.1 hcell _ (by simp)
                        have hoff : p.sh + o + len * ie.size + new'.length ≤ p.en := by omega
                        obtain ⟨w', r1, r2, r3, r4, r5, r6, r7⟩ := run_storeCells (P := P) (w := w) (b := p.blk) (o := p.sh + o + len * ie.size) new' 0 w c tt fz g1 (by omega) (fun j hj hj' => g7 j (by omega) (by omega)) hcell'
                        have hrun := run_append_room' (ty := ty) (a := ⟨p.blk, p.sh + o, none⟩) (sLen := len) (sCap := cap) htu hie hu hd e1 hroom e2 (w' := w') (by rw [add_eq]; exact r1)
                        have hle := H.updLe ⟨p.blk, p.sh + o, p.en⟩
                        obtain ⟨K1, K2⟩ := H.rename (oa' := .row (old ++ new) true) (p' := ⟨p.blk, p.sh + o, p.en⟩) (w' := w') hb rfl hp rfl r4 r5 r6 r7 r3 rfl (by
                          refine ⟨_, tt, fz, r2, ?_, ?_, ?_, fun _ => ⟨?_, fun j hj hj' => g7 j (by simp at hj; omega) hj'⟩⟩
                          · simp only [List.size_toArray, List.length_append, Nat.add_zero]
                            rw [splice_length (by simp; omega)]
                            simp; omega
                          · intro i v hi
                            simp only [List.getElem?_toArray, Nat.add_zero]
                            rw [splice_get (by simp; omega)]
                            rw [List.getElem?_append] at hi
                            split at hi
                            · rename_i hio
                              rw [if_pos (by omega)]
                              -- an old cell
                              unfold loadN at hold
                              split at hold
                              · rename_i rs hrs
                                split at hold
                                · rename_i hle2
                                  simp only [Option.some.injEq] at hold; subst hold
                                  obtain ⟨own2, hb2⟩ := cells?_spec hrs
                                  rw [hb] at hb2
                                  simp only [Option.some.injEq, AObj.row.injEq] at hb2
                                  obtain ⟨rfl, rfl⟩ := hb2
                                  rw [List.getElem?_take] at hi
                                  split at hi
                                  · rw [List.getElem?_drop] at hi
                                    obtain ⟨v', y1, y2⟩ := g3 (o + i) v hi
                                    exact ⟨v', by rw [show p.sh + o + i = p.sh + (o + i) by omega]; simpa using y1, y2.mono hle⟩
                                  · simp at hi
                                · simp at hold
                              · simp at hold
                            · rename_i hio
                              have hin : i - old.length < new.length := by
                                rcases Nat.lt_or_ge (i - old.length) new.length with e | e
                                · exact e
                                · rw [List.getElem?_eq_none e] at hi; simp at hi
                              rw [if_neg (by omega), if_pos (by omega)]
                              obtain ⟨v', y1, y2⟩ := e3.get? hi
                              exact ⟨v', by rw [show p.sh + o + i - (p.sh + o + len * ie.size) = i - old.length by omega]; exact y1, y2.mono hle⟩
                          · simp; omega
                          · simp only [List.size_toArray, Nat.add_zero]; rw [splice_length (by simp; omega)]; simpa using g6)
                        refine ⟨_, _, w', hrun, ?_, K1, K2⟩
                        have := VRel.slice (ρ := upd ρ h.length ⟨p.blk, p.sh + o, p.en⟩) (b := h.length) (o := 0) (p := ⟨p.blk, p.sh + o, p.en⟩) (sz := ie.size) (len := len + m) (k := len + m + 1) (cap := cap) (upd_same _ _ _) hroom (by simp; omega) (by omega)
                        simpa using this
                      · obtain ⟨old', q1, q2, q3, _⟩ := loadN_sound (P := P) H.drew hp hold
                        exact grow (by omega) q2 (by simpa [Builtin.firstCells] using q1) Hk Fk oldLen (by simp)
                  · simp at ha
              · simp at ha
            · simp at ha
          · simp at ha
        · simp at ha
    · simp at ha
  · simp at ha
end Go.AM
