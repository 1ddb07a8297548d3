/-
  Small functions of the flag part: what they answer on any heap.
-/
import Derived.Test.YtpbmpdocgplhpaaDoorVc8
import Derived.Test.YtpbmpdocgplhpaaDoorRCr
set_option linter.unusedSimpArgs false
set_option linter.unusedVariables false
set_option maxRecDepth 100000
namespace Go.Proofs.YtpbmpdocgplhpaaDoor
open Go Go.AM

/-- The reference's Range. -/
def inRange (k n : Int) : Bool := decide (1 ≤ k ∧ k ≤ 4 ∧ 1 ≤ n ∧ n ≤ 5)
theorem range_spec {X : Ext} (hX : X 17 = none) (k n : Int) (h : AHeap) : Ca Tryd.prog X (.fn 17) [I k, I n] h (fun v h' => v = .bool (inRange k n) ∧ h' = h) := by
  refine Ca_fn (fn := Tryd.f17) (c := Tryd.f17.body.getD .skip) hX (by kernel_rfl) (by kernel_rfl) (by kernel_rfl) ?_
  have no : ¬(1 ≤ k ∧ k ≤ 4 ∧ 1 ≤ n ∧ n ≤ 5) → Value.bool false = .bool (inRange k n) := by intro hh; simp only [inRange, decide_eq_false hh]
  refine Run 1000 ?_
  refine Fin_g (k ≥ 1) (by kernel_rfl) (by kernel_rfl) (fun h1 => ?_) (fun h1 => ?_)
  · refine Run 1000 ?_
    refine Fin_g (k ≤ 4) (by kernel_rfl) (by kernel_rfl) (fun h2 => ?_) (fun h2 => ?_)
    · refine Run 1000 ?_
      refine Fin_g (n ≥ 1) (by kernel_rfl) (by kernel_rfl) (fun h3 => ?_) (fun h3 => ?_)
      · refine Run 1000 ?_
        refine Fin_r (by kernel_rfl) ⟨Or.inr rfl, .bool (decide (n ≤ 5)), by kernel_rfl, ?_, rfl⟩
        simp only [inRange]; congr 1; rw [decide_eq_decide]; omega
      · refine Run 1000 ?_
        exact Fin_r (by kernel_rfl) ⟨Or.inr rfl, .bool false, by kernel_rfl, no (by omega), rfl⟩
    · refine Run 1000 ?_
      refine Fin_gB false (by kernel_rfl) (by kernel_rfl) ?_
      refine Run 1000 ?_
      exact Fin_r (by kernel_rfl) ⟨Or.inr rfl, .bool false, by kernel_rfl, no (by omega), rfl⟩
  · refine Run 1000 ?_
    refine Fin_gB false (by kernel_rfl) (by kernel_rfl) ?_
    refine Run 1000 ?_
    refine Fin_gB false (by kernel_rfl) (by kernel_rfl) ?_
    refine Run 1000 ?_
    exact Fin_r (by kernel_rfl) ⟨Or.inr rfl, .bool false, by kernel_rfl, no (by omega), rfl⟩

/-- A slice's cells are these strings. -/
def Strs (h : AHeap) (a : Option Addr) (L : List ByteArray) : Prop := (a = none ∨ ∃ b o, a = some ⟨b, o, some 1⟩) ∧ ∀ i (hi : i < L.length), ∃ b o cs own, a = some ⟨b, o, some 1⟩ ∧ h[b]? = some (.row cs own) ∧ cs[o + i]? = some (.string L[i])
theorem Strs.grow {h h' : AHeap} {a : Option Addr} {L : List ByteArray} (s : Strs h a L) (g : Grew h h') : Strs h' a L := by
  obtain ⟨g, rfl⟩ := g
  refine ⟨s.1, ?_⟩
  intro i hi
  obtain ⟨b, o, cs, own, h1, h2, h3⟩ := s.2 i hi
  exact ⟨b, o, cs, own, h1, by rw [List.getElem?_append_left (lt_of_get h2)]; exact h2, h3⟩
/-- '==' of two strings. -/
def seq (a b : ByteArray) : Bool := a.data.toList == b.data.toList

theorem wrap_next {i n : Nat} (h : i < n) (hn : n < 9223372036854775807) : IntKind.wrap .i64 ((i : Int) + 1) = ((i + 1 : Nat) : Int) := by
  rw [wrap_small (by omega) (by omega)]; simp

theorem has_loop {X : Ext} (h : AHeap) (a : Option Addr) (kk : Nat) (L : List ByteArray) (s : ByteArray) (hL : L.length < 9223372036854775807) (hs : Strs h a L) :
    ∀ (t i : Nat) (f : Nat → Value), i + t = L.length → Knows f [(0, .slice a L.length kk), (1, .string s), (5, I i)] →
    Fin Tryd.prog X none Tryd.f57.ntmps (lpN Tryd.f57 0) .normal ⟨f, h⟩ (fun e y => (e = .normal ∨ e = .ret) ∧ ∃ v, fresults Tryd.prog Tryd.f57.results.toList y = some v ∧ v = .bool ((L.drop i).any fun x => seq x s) ∧ y.h = h) := by
  intro t
  induction t with
  | zero =>
    intro i f hi hf
    refine Fin_known _ hf ?_
    refine Fin_unrl ?_
    refine Run 1000 ?_
    refine Fin_c ((i : Int) < L.length) (by kernel_rfl) (fun h1 => by omega) (fun h2 => ?_)
    refine Run 1000 ?_
    refine Fin_r (by kernel_rfl) ⟨Or.inr rfl, .bool false, by kernel_rfl, ?_, rfl⟩
    rw [List.drop_of_length_le (by omega)]; rfl
  | succ t ih =>
    intro i f hi hf
    obtain ⟨b, o, cs, own, rfl, hb, hc⟩ := hs.2 i (by omega)
    refine Fin_known _ hf ?_
    refine Fin_unrl ?_
    refine Run 1000 ?_
    refine Fin_c ((i : Int) < L.length) (by kernel_rfl) (fun h1 => ?_) (fun h2 => by omega)
    refine Run 1000 ?_
    refine IdxA 22 b o 1 L.length kk .i64 i (by kernel_rfl) (by kernel_rfl) ti22 rfl ti9 rfl (by omega) (by omega) ?_
    refine Run 1000 ?_
    refine Load 9 (.pointer (some ⟨b, o + (i : Int).toNat * 1, none⟩)) (.string L[i]) (by kernel_rfl) (by kernel_rfl) (load_row ti9 rfl hb (by simpa using hc)) ?_
    refine Run 1000 ?_
    have hd : L.drop i = L[i] :: L.drop (i + 1) := List.drop_eq_getElem_cons (by omega)
    have hany : ((L.drop i).any fun x => seq x s) = (seq L[i] s || (L.drop (i + 1)).any fun x => seq x s) := by rw [hd, List.any_cons]
    rw [hany]
    refine Fin_cB (seq L[i] s) (by kernel_rfl) ?_
    cases hq : seq L[i] s with
    | true =>
      refine Run 1000 ?_
      refine Fin_r (by kernel_rfl) ⟨Or.inr rfl, .bool true, by kernel_rfl, ?_, rfl⟩
      rw [Bool.true_or]
    | false =>
      refine Run 1000 ?_
      refine Fin_goto (lpN Tryd.f57 0) h [(0, .slice (some ⟨b, o, some 1⟩) L.length kk), (1, .string s), (5, I (IntKind.wrap .i64 ((i : Int) + 1)))] (by kernel_rfl) (by kernel_rfl) (by kernel_rfl) (fun f' hf' => ?_)
      rw [wrap_next (n := L.length) (by omega) hL] at hf'
      have := ih (i + 1) f' (by omega) hf'
      rw [Bool.false_or]; exact this
theorem has_spec {X : Ext} (hX : X 57 = none) (h : AHeap) (a : Option Addr) (kk : Nat) (L : List ByteArray) (s : ByteArray) (hL : L.length < 9223372036854775807) (hs : Strs h a L) :
    Ca Tryd.prog X (.fn 57) [.slice a L.length kk, .string s] h (fun v h' => v = .bool (L.any fun x => seq x s) ∧ h' = h) := by
  refine Ca_fn (fn := Tryd.f57) (c := Tryd.f57.body.getD .skip) hX (by kernel_rfl) (by kernel_rfl) (by kernel_rfl) ?_
  refine Run 1000 ?_
  refine Fin_goto (lpN Tryd.f57 0) h [(0, .slice a L.length kk), (1, .string s), (5, I (0 : Nat))] (by kernel_rfl) (by kernel_rfl) (by kernel_rfl) (fun f' hf' => ?_)
  exact has_loop h a kk L s hL hs L.length 0 f' (by omega) hf'

/-- Two lists of strings are one, as the law's 'texts' says it. -/
def textsF (A B : List ByteArray) : Bool := (A.length == B.length) && (A.zip B).all fun p => seq p.1 p.2
theorem texts_loop {X : Ext} (h : AHeap) (a b : Option Addr) (ka kb : Nat) (A B : List ByteArray) (hL : A.length < 9223372036854775807) (hAB : A.length = B.length) (ha : Strs h a A) (hb : Strs h b B) :
    ∀ (t i : Nat) (f : Nat → Value), i + t = A.length → Knows f [(0, .slice a A.length ka), (1, .slice b B.length kb), (5, I i)] →
    Fin Tryd.prog X none Tryd.f18.ntmps (lpN Tryd.f18 0) .normal ⟨f, h⟩ (fun e y => (e = .normal ∨ e = .ret) ∧ ∃ v, fresults Tryd.prog Tryd.f18.results.toList y = some v ∧ v = .bool (((A.zip B).drop i).all fun p => seq p.1 p.2) ∧ y.h = h) := by
  intro t
  induction t with
  | zero =>
    intro i f hi hf
    refine Fin_known _ hf ?_
    refine Fin_unrl ?_
    refine Run 1000 ?_
    refine Fin_c ((i : Int) < A.length) (by kernel_rfl) (fun h1 => by omega) (fun h2 => ?_)
    refine Run 1000 ?_
    refine Fin_r (by kernel_rfl) ⟨Or.inr rfl, .bool true, by kernel_rfl, ?_, rfl⟩
    rw [List.drop_of_length_le (by simp; omega)]; rfl
  | succ t ih =>
    intro i f hi hf
    obtain ⟨b1, o1, cs1, own1, rfl, hb1, hc1⟩ := ha.2 i (by omega)
    obtain ⟨b2, o2, cs2, own2, rfl, hb2, hc2⟩ := hb.2 i (by omega)
    refine Fin_known _ hf ?_
    refine Fin_unrl ?_
    refine Run 1000 ?_
    refine Fin_c ((i : Int) < A.length) (by kernel_rfl) (fun h1 => ?_) (fun h2 => by omega)
    refine Run 1000 ?_
    refine Draw (by kernel_rfl) ?_
    refine Run 1000 ?_
    refine IdxA 22 b1 o1 1 A.length ka .i64 i (by kernel_rfl) (by kernel_rfl) ti22 rfl ti9 rfl (by omega) (by omega) ?_
    refine Run 1000 ?_
    refine Load 9 (.pointer (some ⟨b1, o1 + (i : Int).toNat * 1, none⟩)) (.string A[i]) (by kernel_rfl) (by kernel_rfl) (load_row ti9 rfl hb1 (by simpa using hc1)) ?_
    refine Run 1000 ?_
    refine IdxA 22 b2 o2 1 B.length kb .i64 i (by kernel_rfl) (by kernel_rfl) ti22 rfl ti9 rfl (by omega) (by omega) ?_
    refine Run 1000 ?_
    refine Load 9 (.pointer (some ⟨b2, o2 + (i : Int).toNat * 1, none⟩)) (.string (B[i]'(by omega))) (by kernel_rfl) (by kernel_rfl) (load_row ti9 rfl hb2 (by simpa using hc2)) ?_
    refine Run 1000 ?_
    have hz : i < (A.zip B).length := by simp; omega
    have hd : (A.zip B).drop i = (A[i], B[i]'(by omega)) :: (A.zip B).drop (i + 1) := by rw [List.drop_eq_getElem_cons hz]; simp
    have hall : (((A.zip B).drop i).all fun p => seq p.1 p.2) = (seq A[i] (B[i]'(by omega)) && ((A.zip B).drop (i + 1)).all fun p => seq p.1 p.2) := by rw [hd, List.all_cons]
    rw [hall]
    refine Fin_cB (!(seq A[i] (B[i]'(by omega)))) (by kernel_rfl) ?_
    cases hq : seq A[i] (B[i]'(by omega)) with
    | false =>
      refine Run 1000 ?_
      refine Fin_r (by kernel_rfl) ⟨Or.inr rfl, .bool false, by kernel_rfl, ?_, rfl⟩
      rw [Bool.false_and]
    | true =>
      refine Run 1000 ?_
      refine Fin_goto (lpN Tryd.f18 0) h [(0, .slice (some ⟨b1, o1, some 1⟩) A.length ka), (1, .slice (some ⟨b2, o2, some 1⟩) B.length kb), (5, I (IntKind.wrap .i64 ((i : Int) + 1)))] (by kernel_rfl) (by kernel_rfl) (by kernel_rfl) (fun f' hf' => ?_)
      rw [wrap_next (n := A.length) (by omega) hL] at hf'
      have := ih (i + 1) f' (by omega) hf'
      rw [Bool.true_and]; exact this
theorem texts_spec {X : Ext} (hX : X 18 = none) (h : AHeap) (a b : Option Addr) (ka kb : Nat) (A B : List ByteArray) (hL : A.length < 9223372036854775807) (ha : Strs h a A) (hb : Strs h b B) :
    Ca Tryd.prog X (.fn 18) [.slice a A.length ka, .slice b B.length kb] h (fun v h' => v = .bool (textsF A B) ∧ h' = h) := by
  refine Ca_fn (fn := Tryd.f18) (c := Tryd.f18.body.getD .skip) hX (by kernel_rfl) (by kernel_rfl) (by kernel_rfl) ?_
  refine Run 1000 ?_
  refine Fin_cB ((A.length : Int) != B.length) (by kernel_rfl) ?_
  by_cases hq : A.length = B.length
  · have e : ((A.length : Int) != B.length) = false := by simp [hq]
    rw [e]
    refine Run 1000 ?_
    refine Fin_goto (lpN Tryd.f18 0) h [(0, .slice a A.length ka), (1, .slice b B.length kb), (5, I (0 : Nat))] (by kernel_rfl) (by kernel_rfl) (by kernel_rfl) (fun f' hf' => ?_)
    have := texts_loop h a b ka kb A B hL hq ha hb A.length 0 f' (by omega) hf' (X := X)
    simpa [textsF, hq] using this
  · have e : ((A.length : Int) != B.length) = true := by simp; omega
    rw [e]
    refine Run 1000 ?_
    refine Fin_r (by kernel_rfl) ⟨Or.inr rfl, .bool false, by kernel_rfl, ?_, rfl⟩
    simp [textsF, hq]
end Go.Proofs.YtpbmpdocgplhpaaDoor
