/-
  The parts of flag.chosen: joined of lists of lists, the first odd piece.
-/
import Derived.Test.YtpbmpdocgplhpaaGreatDoorDips2
import Derived.Test.YtpbmpdocgplhpaaGreatDoorVc14
set_option linter.unusedSimpArgs false
set_option linter.unusedVariables false
set_option maxRecDepth 100000
namespace Go.Proofs.YtpbmpdocgplhpaaGreatDoor
open Go Go.AM

/-- The values in a row of lists. -/
structure SV (h : AHeap) (a : Option Addr) (D : List (List ByteArray)) (R : List Value) : Prop where
  len : R.length = D.length
  cell : R.all isCell = true
  load : D ≠ [] → ∃ b o, a = some ⟨b, o, some 1⟩ ∧ loadN h b o D.length = some R
  el : ∀ i (hi : i < D.length), ∃ x k, R[i]? = some (.slice x D[i].length k) ∧ Strs h x D[i]
theorem SStrs.vals {h : AHeap} {a : Option Addr} {D : List (List ByteArray)} (s : SStrs h a D) : ∃ R, SV h a D R := by
  by_cases hne : D = []
  · subst hne
    exact ⟨[], rfl, rfl, fun h => absurd rfl h, fun i hi => by simp at hi⟩
  · have h0 : 0 < D.length := List.length_pos_iff.2 hne
    obtain ⟨b, o, cs, own, x0, k0, rfl, hb, _, _⟩ := s.2 0 h0
    have hall : ∀ i (hi : i < D.length), ∃ x k, cs[o + i]? = some (.slice x D[i].length k) ∧ Strs h x D[i] := by
      intro i hi
      obtain ⟨b2, o2, cs2, own2, x, k, e, hb2, hc2, hs2⟩ := s.2 i hi
      simp only [Option.some.injEq, Addr.mk.injEq, and_true] at e
      obtain ⟨rfl, rfl⟩ := e
      rw [hb] at hb2
      simp only [Option.some.injEq, AObj.row.injEq] at hb2
      obtain ⟨rfl, _⟩ := hb2
      exact ⟨x, k, hc2, hs2⟩
    have hlen : o + D.length ≤ cs.length := by
      obtain ⟨x, k, hc, _⟩ := hall (D.length - 1) (by omega)
      have := (List.getElem?_eq_some_iff.1 hc).1
      omega
    have hget : ∀ i, i < D.length → ((cs.drop o).take D.length)[i]? = cs[o + i]? := by
      intro i hi
      rw [List.getElem?_take, if_pos hi, List.getElem?_drop]
    have hl : ((cs.drop o).take D.length).length = D.length := by simp; omega
    refine ⟨(cs.drop o).take D.length, hl, ?_, fun _ => ⟨b, o, rfl, ?_⟩, fun i hi => ?_⟩
    · rw [List.all_eq_true]
      intro v hv
      obtain ⟨i, hi, rfl⟩ := List.mem_iff_getElem.1 hv
      have hi2 : i < D.length := by omega
      obtain ⟨x, k, hc, _⟩ := hall i hi2
      have e := hget i hi2
      rw [List.getElem?_eq_getElem hi, hc] at e
      simp only [Option.some.injEq] at e
      rw [e]; rfl
    · simp only [loadN, cells?, hb]
      rw [if_pos hlen]
    · rw [hget i hi]
      exact hall i hi
structure AccV (h0 h : AHeap) (v : Value) (V : List Value) : Prop where
  le : h0.length ≤ h.length
  old : ∀ j, j < h0.length → h[j]? = h0[j]?
  val : (V = [] ∧ v = .slice none 0 0) ∨ ∃ b, h0.length ≤ b ∧ v = .slice (some ⟨b, 0, some 1⟩) V.length (V.length + 1) ∧ h[b]? = some (.row V true)
theorem AccV.grew {h0 h : AHeap} {v : Value} {V : List Value} (A : AccV h0 h v V) : Grew h0 h := Grew.of_get2 A.le A.old
theorem AccV.appV {h0 h : AHeap} {v : Value} {V R : List Value} (A : AccV h0 h v V) {a : Option Addr} {kk : Nat} (hR : R ≠ [] → ∃ b o, a = some ⟨b, o, some 1⟩ ∧ loadN h b o R.length = some R) (hcell : R.all isCell = true) (hL : V.length + R.length < 4294967295) :
    ∃ v' h', aappend Tryz.prog h 121 v (.slice a R.length kk) = some (v', h') ∧ AccV h0 h' v' (V ++ R) := by
  by_cases hRn : R = []
  · subst hRn
    refine ⟨v, h, ?_, by simpa using A⟩
    rcases A.val with ⟨rfl, rfl⟩ | ⟨b, hb, rfl, hr⟩
    · simp [aappend, ti98, elemsLen, ti22]
    · simp [aappend, ti98, elemsLen, ti22]
  · obtain ⟨b2, o2, rfl, hload⟩ := hR hRn
    have hpos : 0 < R.length := List.length_pos_iff.2 hRn
    have hm : ¬R.length = 0 := by omega
    have hload' : loadN h b2 o2 (R.length * 1) = some R := by simpa using hload
    have hlim : decide (V.length + R.length ≤ lim) = true := decide_eq_true (by simp only [lim]; omega)
    rcases A.val with ⟨rfl, rfl⟩ | ⟨b, hb, rfl, hr⟩
    · refine ⟨.slice (some ⟨h.length, 0, some 1⟩) (0 + R.length) (0 + R.length + 1), h ++ [AObj.row R true], ?_, ⟨?_, ?_, ?_⟩⟩
      · simp only [List.length_nil] at hlim
        simp only [aappend, ti98, elemsLen, ti22, loadElems, if_true, hload', hm, if_false, hlim, limBytes]
        rfl
      · have := A.le; simp; omega
      · intro j hj; have := A.le; rw [List.getElem?_append_left (by omega)]; exact A.old j hj
      · exact Or.inr ⟨h.length, A.le, by simp, by simp⟩
    · have hold : loadN h b 0 (V.length * 1) = some V := by
        simp only [loadN, cells?, hr]
        rw [if_pos (by omega)]; simp [List.take_of_length_le]
      have hbl : b < h.length := lt_of_get hr
      refine ⟨.slice (some ⟨h.length, 0, some 1⟩) (V.length + R.length) (V.length + R.length + 1), h.set b AObj.dead ++ [AObj.row (V ++ R) true], ?_, ⟨?_, ?_, ?_⟩⟩
      · simp only [aappend, ti98, elemsLen, ti22, loadElems, if_true, hload', hm, if_false, hlim, limBytes, hold, hr]
        simp [hcell]
      · have := A.le; simp; omega
      · intro j hj; have := A.le
        rw [List.getElem?_append_left (by simp; omega), List.getElem?_set_ne (by omega)]; exact A.old j hj
      · refine Or.inr ⟨h.length, A.le, by simp, ?_⟩
        rw [List.getElem?_append_right (by simp)]; simp

theorem ti111 : ti Tryz.prog 158 = some ⟨.slice 121, 1, 24, .slice none 0 0⟩ := by kernel_rfl
theorem joined2_spec {X : Ext} (hX : X 77 = none) (h : AHeap) (q kq : Nat) (own : Bool) (a1 a2 : Option Addr) (k1 k2 : Nat) (D1 D2 : List (List ByteArray)) (hq : h[q]? = some (.row [.slice a1 D1.length k1, .slice a2 D2.length k2] own)) (s1 : SStrs h a1 D1) (s2 : SStrs h a2 D2) (hl : D1.length + D2.length < 1000000) :
    Ca Tryz.prog X (.fn 77) [.slice (some ⟨q, 0, some 1⟩) 2 kq] h (fun v h' => (∃ a k, v = .slice a (D1 ++ D2).length k ∧ SStrs h' a (D1 ++ D2)) ∧ Grew h h') := by
  obtain ⟨R1, r1⟩ := s1.vals
  obtain ⟨R2, r2⟩ := s2.vals
  have A0 : AccV h h (.slice none 0 0) [] := ⟨Nat.le_refl _, fun _ _ => rfl, Or.inl ⟨rfl, rfl⟩⟩
  obtain ⟨v1, h1, e1, A1⟩ := A0.appV (a := a1) (kk := k1) (R := R1) (fun hne => by
    obtain ⟨b, o, e, hld⟩ := r1.load (fun e => hne (List.eq_nil_of_length_eq_zero (by rw [r1.len, e]; rfl)))
    exact ⟨b, o, e, by rw [r1.len]; exact hld⟩) r1.cell (by have := r1.len; simp; omega)
  rw [List.nil_append] at A1
  have G1 := A1.grew
  have keepL : ∀ {b o n : Nat} {R : List Value}, loadN h b o n = some R → loadN h1 b o n = some R := by
    intro b o n R hld
    unfold loadN cells? at hld ⊢
    cases hb : h[b]? with
    | none => rw [hb] at hld; simp at hld
    | some ob => rw [G1.at hb]; rw [hb] at hld; exact hld
  obtain ⟨v2, h2, e2, A2⟩ := A1.appV (a := a2) (kk := k2) (R := R2) (fun hne => by
    obtain ⟨b, o, e, hld⟩ := r2.load (fun e => hne (List.eq_nil_of_length_eq_zero (by rw [r2.len, e]; rfl)))
    exact ⟨b, o, e, by rw [r2.len]; exact keepL hld⟩) r2.cell (by have := r1.len; have := r2.len; omega)
  have G2 := A2.grew
  have hq1 := G1.at hq
  have hfin : ∃ a k, v2 = .slice a (D1 ++ D2).length k ∧ SStrs h2 a (D1 ++ D2) := by
    have hlen : (R1 ++ R2).length = (D1 ++ D2).length := by simp [r1.len, r2.len]
    rcases A2.val with ⟨e, rfl⟩ | ⟨b, hb, rfl, hr⟩
    · have : D1 ++ D2 = [] := List.eq_nil_of_length_eq_zero (by rw [← hlen, e]; rfl)
      rw [this]
      exact ⟨none, 0, rfl, Or.inl rfl, fun i hi => by simp at hi⟩
    · refine ⟨_, _, by rw [← hlen], Or.inr ⟨b, 0, rfl⟩, fun i hi => ?_⟩
      have hl1 := r1.len
      by_cases hi1 : i < D1.length
      · obtain ⟨x, k, e, hs⟩ := r1.el i hi1
        refine ⟨b, 0, _, true, x, k, rfl, hr, ?_, ?_⟩
        · rw [Nat.zero_add, List.getElem?_append_left (by omega), e, List.getElem_append_left hi1]
        · rw [List.getElem_append_left hi1]; exact hs.grow G2
      · have hi2 : i - D1.length < D2.length := by simp at hi; omega
        obtain ⟨x, k, e, hs⟩ := r2.el (i - D1.length) hi2
        refine ⟨b, 0, _, true, x, k, rfl, hr, ?_, ?_⟩
        · rw [Nat.zero_add, List.getElem?_append_right (by omega), hl1, e, List.getElem_append_right (by omega)]
        · rw [List.getElem_append_right (by omega)]; exact hs.grow G2
  refine Ca_fn (fn := Tryz.f77) (c := Tryz.f77.body.getD .skip) hX (by kernel_rfl) (by kernel_rfl) (by kernel_rfl) ?_
  have e1' : aappend Tryz.prog h 121 (.slice none 0 0) (.slice a1 D1.length k1) = some (v1, h1) := by rw [← r1.len]; exact e1
  have e2' : aappend Tryz.prog h1 121 v1 (.slice a2 D2.length k2) = some (v2, h2) := by rw [← r2.len]; exact e2
  refine Run 1000 ?_
  refine Fin_goto (lpN Tryz.f77 0) h [(3, .slice none 0 0), (6, .slice (some ⟨q, 0, some 1⟩) 2 kq), (7, I 2), (8, I 0)] (by kernel_rfl) rfl (by kernel_rfl) (fun f' hf' => ?_)
  refine Fin_known _ hf' ?_
  refine Fin_unrl ?_
  refine RunA 1000 1 ?_
  refine IdxA 158 q 0 1 2 kq .i64 0 (by kernel_rfl) (by kernel_rfl) ti111 rfl ti98 rfl (by omega) (by omega) ?_
  refine Run 1000 ?_
  refine Load 121 (.pointer (some ⟨q, 0 + (0 : Int).toNat * 1, none⟩)) (.slice a1 D1.length k1) (by kernel_rfl) (by kernel_rfl) (load_row ti98 rfl hq rfl) ?_
  refine Run 1000 ?_
  refine App 121 121 (.slice none 0 0) (.slice a1 D1.length k1) v1 h1 (by kernel_rfl) (by kernel_rfl) Tryz.underlying121 (by simp) e1' ?_
  refine Run 1000 ?_
  refine Fin_goto (lpN Tryz.f77 0) h1 [(3, v1), (6, .slice (some ⟨q, 0, some 1⟩) 2 kq), (7, I 2), (8, I 1)] (by kernel_rfl) rfl (by kernel_rfl) (fun f1 hf1 => ?_)
  refine Fin_known _ hf1 ?_
  refine Fin_unrl ?_
  refine RunA 1000 1 ?_
  refine IdxA 158 q 0 1 2 kq .i64 1 (by kernel_rfl) (by kernel_rfl) ti111 rfl ti98 rfl (by omega) (by omega) ?_
  refine Run 1000 ?_
  refine Load 121 (.pointer (some ⟨q, 0 + (1 : Int).toNat * 1, none⟩)) (.slice a2 D2.length k2) (by kernel_rfl) (by kernel_rfl) (load_row ti98 rfl hq1 rfl) ?_
  refine Run 1000 ?_
  refine App 121 121 v1 (.slice a2 D2.length k2) v2 h2 (by kernel_rfl) (by kernel_rfl) Tryz.underlying121 (by simp) e2' ?_
  refine Run 1000 ?_
  refine Fin_goto (lpN Tryz.f77 0) h2 [(3, v2), (6, .slice (some ⟨q, 0, some 1⟩) 2 kq), (7, I 2), (8, I 2)] (by kernel_rfl) rfl (by kernel_rfl) (fun f2 hf2 => ?_)
  refine Fin_known _ hf2 ?_
  refine Fin_unrl ?_
  refine RunA 1000 2 ?_
  exact Fin_r (by kernel_rfl) ⟨Or.inr rfl, v2, by kernel_rfl, hfin, G2⟩

/-- A piece of an odd number of words. -/
def oddB (d : List ByteArray) : Bool := d.length % 2 == 1
theorem odd_eq (n : Nat) : ((Int.tmod (n : Int) 2) == 1) = (n % 2 == 1) := by
  rw [Int.tmod_eq_emod_of_nonneg (by omega)]
  rw [Bool.eq_iff_iff, beq_iff_eq, beq_iff_eq]
  omega
theorem odd_spec {X : Ext} (hX : X 76 = none) (a : Option Addr) (k : Nat) (d : List ByteArray) (h : AHeap) : Ca Tryz.prog X (.fn 76) [.slice a d.length k] h (fun v h' => v = .bool (oddB d) ∧ h' = h) := by
  refine Ca_fn (fn := Tryz.f76) (c := Tryz.f76.body.getD .skip) hX (by kernel_rfl) (by kernel_rfl) (by kernel_rfl) ?_
  refine Run 1000 ?_
  exact Fin_r (by kernel_rfl) ⟨Or.inr rfl, .bool ((Int.tmod (d.length : Int) 2) == 1), by kernel_rfl, by rw [odd_eq]; rfl, rfl⟩
theorem idxo_loop {X : Ext} (hX85 : X 76 = none) (h : AHeap) (a : Option Addr) (kk : Nat) (D : List (List ByteArray)) (hD : D.length < 1000000) (hs : SStrs h a D) (p : Nat) (hp : p < D.length) (hodd : oddB D[p] = true) (hno : ∀ j (hj : j < D.length), j < p → oddB D[j] = false) :
    ∀ (t i : Nat) (f : Nat → Value), i + t = p → Knows f [(0, .slice a D.length kk), (1, .func (.func 76) #[] #[]), (6, .slice a D.length kk), (7, I D.length), (8, I i)] →
    Fin Tryz.prog X none Tryz.f75.ntmps (lpN Tryz.f75 0) .normal ⟨f, h⟩ (fun e y => (e = .normal ∨ e = .ret) ∧ ∃ v, fresults Tryz.prog Tryz.f75.results.toList y = some v ∧ v = I p ∧ y.h = h) := by
  intro t
  induction t with
  | zero =>
    intro i f hi hf
    obtain rfl : i = p := by omega
    obtain ⟨b, o, cs, own, x, k, rfl, hb, hc, _⟩ := hs.2 i hp
    refine Fin_known _ hf ?_
    refine Fin_unrl ?_
    refine Run 1000 ?_
    refine Fin_c ((i : Int) < D.length) (by kernel_rfl) (fun h1 => ?_) (fun h1 => by omega)
    refine Run 1000 ?_
    refine IdxA 121 b o 1 D.length kk .i64 i (by kernel_rfl) (by kernel_rfl) ti98 rfl ti22 rfl (by omega) (by omega) ?_
    refine Run 1000 ?_
    refine Load 27 (.pointer (some ⟨b, o + (i : Int).toNat * 1, none⟩)) (.slice x D[i].length k) (by kernel_rfl) (by kernel_rfl) (load_row ti22 rfl hb (by simpa using hc)) ?_
    refine Run 1000 ?_
    refine Fin_call 76 [.slice x D[i].length k] (by kernel_rfl) (by kernel_rfl) (by
      have c := odd_spec (X := X) hX85 x k D[i] h
      rw [hodd] at c; exact c) (fun v1 hh1 hv1 => ?_)
    obtain ⟨rfl, rfl⟩ := hv1
    refine RunA 1000 1 ?_
    exact Fin_r (by kernel_rfl) ⟨Or.inr rfl, I i, by kernel_rfl, rfl, rfl⟩
  | succ t ih =>
    intro i f hi hf
    have hlt : i < D.length := by omega
    obtain ⟨b, o, cs, own, x, k, rfl, hb, hc, _⟩ := hs.2 i hlt
    have hev := hno i hlt (by omega)
    refine Fin_known _ hf ?_
    refine Fin_unrl ?_
    refine Run 1000 ?_
    refine Fin_c ((i : Int) < D.length) (by kernel_rfl) (fun h1 => ?_) (fun h1 => by omega)
    refine Run 1000 ?_
    refine IdxA 121 b o 1 D.length kk .i64 i (by kernel_rfl) (by kernel_rfl) ti98 rfl ti22 rfl (by omega) (by omega) ?_
    refine Run 1000 ?_
    refine Load 27 (.pointer (some ⟨b, o + (i : Int).toNat * 1, none⟩)) (.slice x D[i].length k) (by kernel_rfl) (by kernel_rfl) (load_row ti22 rfl hb (by simpa using hc)) ?_
    refine Run 1000 ?_
    refine Fin_call 76 [.slice x D[i].length k] (by kernel_rfl) (by kernel_rfl) (by
      have c := odd_spec (X := X) hX85 x k D[i] h
      rw [hev] at c; exact c) (fun v1 hh1 hv1 => ?_)
    obtain ⟨rfl, rfl⟩ := hv1
    refine RunA 1000 1 ?_
    refine Fin_goto (lpN Tryz.f75 0) hh1 [(0, .slice (some ⟨b, o, some 1⟩) D.length kk), (1, .func (.func 76) #[] #[]), (6, .slice (some ⟨b, o, some 1⟩) D.length kk), (7, I D.length), (8, I (IntKind.wrap .i64 ((i : Int) + 1)))] (by kernel_rfl) rfl (by kernel_rfl) (fun f' hf' => ?_)
    rw [wrap_next hlt (by omega)] at hf'
    exact ih (i + 1) f' (by omega) hf'
theorem idxo_spec {X : Ext} (hX : X 75 = none) (hX85 : X 76 = none) (h : AHeap) (a : Option Addr) (kk : Nat) (D : List (List ByteArray)) (hD : D.length < 1000000) (hs : SStrs h a D) (p : Nat) (hp : p < D.length) (hodd : oddB D[p] = true) (hno : ∀ j (hj : j < D.length), j < p → oddB D[j] = false) :
    Ca Tryz.prog X (.fn 75) [.slice a D.length kk, .func (.func 76) #[] #[]] h (fun v h' => v = I p ∧ h' = h) := by
  refine Ca_fn (fn := Tryz.f75) (c := Tryz.f75.body.getD .skip) hX (by kernel_rfl) (by kernel_rfl) (by kernel_rfl) ?_
  refine Run 1000 ?_
  refine Fin_goto (lpN Tryz.f75 0) h [(0, .slice a D.length kk), (1, .func (.func 76) #[] #[]), (6, .slice a D.length kk), (7, I D.length), (8, I (0 : Nat))] (by kernel_rfl) rfl (by kernel_rfl) (fun f' hf' => ?_)
  exact idxo_loop hX85 h a kk D hD hs p hp hodd hno p 0 f' (by omega) hf'
end Go.Proofs.YtpbmpdocgplhpaaGreatDoor
