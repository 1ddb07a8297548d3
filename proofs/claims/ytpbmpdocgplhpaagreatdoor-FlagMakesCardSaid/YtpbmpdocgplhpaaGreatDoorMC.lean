/-
  MERGED BY PROGRAM out of the texts Cr RCr Sm Acc Turns MinS Has AccL With Pl Pw.
-/
import Derived.Test.YtpbmpdocgplhpaaGreatDoorMV
import Derived.Test.YtpbmpdocgplhpaaGreatDoorMG
import Derived.Laws.RangeString
/-
  'flag.CountRings' computes what a plain function computes.
-/
set_option linter.unusedSimpArgs false
set_option linter.unusedVariables false
set_option maxRecDepth 100000
namespace Go.Proofs.YtpbmpdocgplhpaaGreatDoor
open Go Go.AM

theorem ti3 : ti Tryz.prog 3 = some ⟨.int .i64, 1, 8, .int .i64 0⟩ := by kernel_rfl
theorem ti9 : ti Tryz.prog 9 = some ⟨.string, 1, 16, .string .empty⟩ := by kernel_rfl
theorem ti22 : ti Tryz.prog 27 = some ⟨.slice 9, 1, 24, .slice none 0 0⟩ := by kernel_rfl
abbrev I (n : Int) : Value := .int .i64 n
def ints (W : List Int) : List Value := W.map fun z => .int .i64 z
theorem ints_length (W : List Int) : (ints W).length = W.length := by simp [ints]
theorem load_row {P : Program} {h : AHeap} {t b o : Nat} {it : TI} {cs : List Value} {own : Bool} {v : Value} (ht : ti P t = some it) (ha : it.isAgg = false) (hb : h[b]? = some (.row cs own)) (hv : cs[o]? = some v) :
    aload P h t (.pointer (some ⟨b, o, none⟩)) = some v := by
  simp [aload, ht, ha, load1, cells?, hb, hv]
theorem store_row {P : Program} {h : AHeap} {t b o : Nat} {it : TI} {cs : List Value} {v : Value} (ht : ti P t = some it) (hs : it.size = 1) (hc : v.cells = #[v]) (hd : isData v = true) (hi : isCell v = true) (hb : h[b]? = some (.row cs true)) (ho : o < cs.length) :
    astore P h t (.pointer (some ⟨b, o, none⟩)) v = some (h.set b (.row (splice cs o [v]) true)) := by
  simp [astore, ht, hs, hc, hd, storeN, hb, hi]
  omega

theorem wrap_small {n : Int} (h : 0 ≤ n) (h2 : n < 9223372036854775808) : IntKind.wrap .i64 n = n := by
  have e : n % (2 : Int) ^ 64 = n := Int.emod_eq_of_lt h (by have : (2 : Int) ^ 64 = 18446744073709551616 := by decide
                                                             omega)
  simp [IntKind.wrap, IntKind.bits, IntKind.signed, e]
  omega

/-- What is known of a few slots. -/
def Knows (f : Nat → Value) (l : List (Nat × Value)) : Prop := l.map (fun p => f p.1) = l.map (·.2)

/-- What a call leaves behind: nothing of what was is changed. -/
def Grew (h h' : AHeap) : Prop := ∃ g, h' = h ++ g

end Go.Proofs.YtpbmpdocgplhpaaGreatDoor

/-
  The reference's 'CountRings' computes what a plain function computes.
-/
set_option linter.unusedSimpArgs false
set_option linter.unusedVariables false
set_option maxRecDepth 100000
namespace Go.Proofs.YtpbmpdocgplhpaaGreatDoor
open Go Go.AM

end Go.Proofs.YtpbmpdocgplhpaaGreatDoor

/-
  Small functions of the flag part: what they answer on any heap.
-/
set_option linter.unusedSimpArgs false
set_option linter.unusedVariables false
set_option maxRecDepth 100000
namespace Go.Proofs.YtpbmpdocgplhpaaGreatDoor
open Go Go.AM

/-- The reference's Range. -/
def inRange (k n : Int) : Bool := decide (1 ≤ k ∧ k ≤ 4 ∧ 1 ≤ n ∧ n ≤ 5)
theorem range_spec {X : Ext} (hX : X 13 = none) (k n : Int) (h : AHeap) : Ca Tryz.prog X (.fn 13) [I k, I n] h (fun v h' => v = .bool (inRange k n) ∧ h' = h) := by
  refine Ca_fn (fn := Tryz.f13) (c := Tryz.f13.body.getD .skip) hX (by kernel_rfl) (by kernel_rfl) (by kernel_rfl) ?_
  have no : ¬(1 ≤ k ∧ k ≤ 4 ∧ 1 ≤ n ∧ n ≤ 5) → Value.bool false = .bool (inRange k n) := by intro hh; simp only [inRange, decide_eq_false hh]
  refine Run 1000 ?_
  refine Fin_g (k ≥ 1) (by kernel_rfl) (by kernel_rfl) (fun h1 => ?_) (fun h1 => ?_)
  · refine Run 1000 ?_
    refine Fin_g (k ≤ 4) (by kernel_rfl) (by kernel_rfl) (fun h2 => ?_) (fun h2 => ?_)
    · refine Run 1000 ?_
      refine Fin_g (n ≥ 1) (by kernel_rfl) (by kernel_rfl) (fun h3 => ?_) (fun h3 => ?_)
      · refine Run 1000 ?_
        refine Fin_r (by kernel_rfl) ⟨Or.inr rfl, .bool (decide (n ≤ 5)), by kernel_rfl, ?_, rfl⟩
        simp only [inRange]; congr 1; rw [decide_eq_decide]; omega
      · refine Run 1000 ?_
        exact Fin_r (by kernel_rfl) ⟨Or.inr rfl, .bool false, by kernel_rfl, no (by omega), rfl⟩
    · refine Run 1000 ?_
      refine Fin_gB false (by kernel_rfl) (by kernel_rfl) ?_
      refine Run 1000 ?_
      exact Fin_r (by kernel_rfl) ⟨Or.inr rfl, .bool false, by kernel_rfl, no (by omega), rfl⟩
  · refine Run 1000 ?_
    refine Fin_gB false (by kernel_rfl) (by kernel_rfl) ?_
    refine Run 1000 ?_
    refine Fin_gB false (by kernel_rfl) (by kernel_rfl) ?_
    refine Run 1000 ?_
    exact Fin_r (by kernel_rfl) ⟨Or.inr rfl, .bool false, by kernel_rfl, no (by omega), rfl⟩

/-- A slice's cells are these strings. -/
def Strs (h : AHeap) (a : Option Addr) (L : List ByteArray) : Prop := (a = none ∨ ∃ b o, a = some ⟨b, o, some 1⟩) ∧ ∀ i (hi : i < L.length), ∃ b o cs own, a = some ⟨b, o, some 1⟩ ∧ h[b]? = some (.row cs own) ∧ cs[o + i]? = some (.string L[i])
theorem Strs.grow {h h' : AHeap} {a : Option Addr} {L : List ByteArray} (s : Strs h a L) (g : Grew h h') : Strs h' a L := by
  obtain ⟨g, rfl⟩ := g
  refine ⟨s.1, ?_⟩
  intro i hi
  obtain ⟨b, o, cs, own, h1, h2, h3⟩ := s.2 i hi
  exact ⟨b, o, cs, own, h1, by rw [List.getElem?_append_left (lt_of_get h2)]; exact h2, h3⟩
/-- '==' of two strings. -/
def seq (a b : ByteArray) : Bool := a.data.toList == b.data.toList

theorem wrap_next {i n : Nat} (h : i < n) (hn : n < 9223372036854775807) : IntKind.wrap .i64 ((i : Int) + 1) = ((i + 1 : Nat) : Int) := by
  rw [wrap_small (by omega) (by omega)]; simp

/-- Two lists of strings are one, as the law's 'texts' says it. -/
def textsF (A B : List ByteArray) : Bool := (A.length == B.length) && (A.zip B).all fun p => seq p.1 p.2
theorem texts_loop {X : Ext} (h : AHeap) (a b : Option Addr) (ka kb : Nat) (A B : List ByteArray) (hL : A.length < 9223372036854775807) (hAB : A.length = B.length) (ha : Strs h a A) (hb : Strs h b B) :
    ∀ (t i : Nat) (f : Nat → Value), i + t = A.length → Knows f [(0, .slice a A.length ka), (1, .slice b B.length kb), (5, I i)] →
    Fin Tryz.prog X none Tryz.f19.ntmps (lpN Tryz.f19 0) .normal ⟨f, h⟩ (fun e y => (e = .normal ∨ e = .ret) ∧ ∃ v, fresults Tryz.prog Tryz.f19.results.toList y = some v ∧ v = .bool (((A.zip B).drop i).all fun p => seq p.1 p.2) ∧ y.h = h) := by
  intro t
  induction t with
  | zero =>
    intro i f hi hf
    refine Fin_known _ hf ?_
    refine Fin_unrl ?_
    refine Run 1000 ?_
    refine Fin_c ((i : Int) < A.length) (by kernel_rfl) (fun h1 => by omega) (fun h2 => ?_)
    refine Run 1000 ?_
    refine Fin_r (by kernel_rfl) ⟨Or.inr rfl, .bool true, by kernel_rfl, ?_, rfl⟩
    rw [List.drop_of_length_le (by simp; omega)]; rfl
  | succ t ih =>
    intro i f hi hf
    obtain ⟨b1, o1, cs1, own1, rfl, hb1, hc1⟩ := ha.2 i (by omega)
    obtain ⟨b2, o2, cs2, own2, rfl, hb2, hc2⟩ := hb.2 i (by omega)
    refine Fin_known _ hf ?_
    refine Fin_unrl ?_
    refine Run 1000 ?_
    refine Fin_c ((i : Int) < A.length) (by kernel_rfl) (fun h1 => ?_) (fun h2 => by omega)
    refine Run 1000 ?_
    refine Draw (by kernel_rfl) ?_
    refine Run 1000 ?_
    refine IdxA 27 b1 o1 1 A.length ka .i64 i (by kernel_rfl) (by kernel_rfl) ti22 rfl ti9 rfl (by omega) (by omega) ?_
    refine Run 1000 ?_
    refine Load 9 (.pointer (some ⟨b1, o1 + (i : Int).toNat * 1, none⟩)) (.string A[i]) (by kernel_rfl) (by kernel_rfl) (load_row ti9 rfl hb1 (by simpa using hc1)) ?_
    refine Run 1000 ?_
    refine IdxA 27 b2 o2 1 B.length kb .i64 i (by kernel_rfl) (by kernel_rfl) ti22 rfl ti9 rfl (by omega) (by omega) ?_
    refine Run 1000 ?_
    refine Load 9 (.pointer (some ⟨b2, o2 + (i : Int).toNat * 1, none⟩)) (.string (B[i]'(by omega))) (by kernel_rfl) (by kernel_rfl) (load_row ti9 rfl hb2 (by simpa using hc2)) ?_
    refine Run 1000 ?_
    have hz : i < (A.zip B).length := by simp; omega
    have hd : (A.zip B).drop i = (A[i], B[i]'(by omega)) :: (A.zip B).drop (i + 1) := by rw [List.drop_eq_getElem_cons hz]; simp
    have hall : (((A.zip B).drop i).all fun p => seq p.1 p.2) = (seq A[i] (B[i]'(by omega)) && ((A.zip B).drop (i + 1)).all fun p => seq p.1 p.2) := by rw [hd, List.all_cons]
    rw [hall]
    refine Fin_cB (!(seq A[i] (B[i]'(by omega)))) (by kernel_rfl) ?_
    cases hq : seq A[i] (B[i]'(by omega)) with
    | false =>
      refine Run 1000 ?_
      refine Fin_r (by kernel_rfl) ⟨Or.inr rfl, .bool false, by kernel_rfl, ?_, rfl⟩
      rw [Bool.false_and]
    | true =>
      refine Run 1000 ?_
      refine Fin_goto (lpN Tryz.f19 0) h [(0, .slice (some ⟨b1, o1, some 1⟩) A.length ka), (1, .slice (some ⟨b2, o2, some 1⟩) B.length kb), (5, I (IntKind.wrap .i64 ((i : Int) + 1)))] (by kernel_rfl) (by kernel_rfl) (by kernel_rfl) (fun f' hf' => ?_)
      rw [wrap_next (n := A.length) (by omega) hL] at hf'
      have := ih (i + 1) f' (by omega) hf'
      rw [Bool.true_and]; exact this
theorem texts_spec {X : Ext} (hX : X 19 = none) (h : AHeap) (a b : Option Addr) (ka kb : Nat) (A B : List ByteArray) (hL : A.length < 9223372036854775807) (ha : Strs h a A) (hb : Strs h b B) :
    Ca Tryz.prog X (.fn 19) [.slice a A.length ka, .slice b B.length kb] h (fun v h' => v = .bool (textsF A B) ∧ h' = h) := by
  refine Ca_fn (fn := Tryz.f19) (c := Tryz.f19.body.getD .skip) hX (by kernel_rfl) (by kernel_rfl) (by kernel_rfl) ?_
  refine Run 1000 ?_
  refine Fin_cB ((A.length : Int) != B.length) (by kernel_rfl) ?_
  by_cases hq : A.length = B.length
  · have e : ((A.length : Int) != B.length) = false := by simp [hq]
    rw [e]
    refine Run 1000 ?_
    refine Fin_goto (lpN Tryz.f19 0) h [(0, .slice a A.length ka), (1, .slice b B.length kb), (5, I (0 : Nat))] (by kernel_rfl) (by kernel_rfl) (by kernel_rfl) (fun f' hf' => ?_)
    have := texts_loop h a b ka kb A B hL hq ha hb A.length 0 f' (by omega) hf' (X := X)
    simpa [textsF, hq] using this
  · have e : ((A.length : Int) != B.length) = true := by simp; omega
    rw [e]
    refine Run 1000 ?_
    refine Fin_r (by kernel_rfl) ⟨Or.inr rfl, .bool false, by kernel_rfl, ?_, rfl⟩
    simp [textsF, hq]
end Go.Proofs.YtpbmpdocgplhpaaGreatDoor

/-
  Lists of strings that grow by append.
-/
set_option linter.unusedSimpArgs false
set_option linter.unusedVariables false
set_option maxRecDepth 100000
namespace Go.Proofs.YtpbmpdocgplhpaaGreatDoor
open Go Go.AM

def strs (L : List ByteArray) : List Value := L.map fun s => .string s
theorem strs_length (L : List ByteArray) : (strs L).length = L.length := by simp [strs]
/-- v is the slice of the strings L, in memory newer than h0 of which all is as it was. -/
structure Acc (h0 h : AHeap) (v : Value) (L : List ByteArray) : Prop where
  le : h0.length ≤ h.length
  old : ∀ j, j < h0.length → h[j]? = h0[j]?
  val : (L = [] ∧ v = .slice none 0 0) ∨ ∃ b, h0.length ≤ b ∧ v = .slice (some ⟨b, 0, some 1⟩) L.length (L.length + 1) ∧ h[b]? = some (.row (strs L) true)

theorem Acc.nil (h : AHeap) : Acc h h (.slice none 0 0) [] := ⟨Nat.le_refl _, fun _ _ => rfl, Or.inl ⟨rfl, rfl⟩⟩
theorem Acc.grew {h0 h : AHeap} {v : Value} {L : List ByteArray} (A : Acc h0 h v L) : Grew h0 h := by
  refine ⟨h.drop h0.length, ?_⟩
  apply List.ext_getElem?
  intro j
  by_cases hj : j < h0.length
  · rw [List.getElem?_append_left hj, A.old j hj]
  · rw [List.getElem?_append_right (by omega), List.getElem?_drop]
    congr 1; omega

/-- One more string: a literal of one string, appended. -/
theorem Acc.app {h0 h : AHeap} {v : Value} {L : List ByteArray} (A : Acc h0 h v L) (s : ByteArray) (hL : L.length < 4294967295) :
    ∃ v' h', aappend Tryz.prog (h ++ [.row [.string s] true]) 27 v (.slice (some ⟨h.length, 0, some 1⟩) 1 1) = some (v', h') ∧ Acc h0 h' v' (L ++ [s]) ∧
      h.length ≤ h'.length ∧ ∀ j, (∀ cs, h[j]? ≠ some (.row cs true)) → j < h.length → h'[j]? = h[j]? := by
  have hnew : loadN (h ++ [AObj.row [Value.string s] true]) h.length 0 (1 * 1) = some [.string s] := by simp [loadN, cells?]
  have hlim : L.length + 1 ≤ lim := by simp only [lim]; omega
  rcases A.val with ⟨rfl, rfl⟩ | ⟨b, hb, rfl, hr⟩
  · refine ⟨.slice (some ⟨(h ++ [AObj.row [Value.string s] true]).length, 0, some 1⟩) 1 2, (h ++ [AObj.row [Value.string s] true]) ++ [AObj.row [Value.string s] true], ?_, ⟨?_, ?_, ?_⟩, ?_, ?_⟩
    · simp only [aappend, ti22, elemsLen, ti9, loadElems, if_true, hnew]
      have e1 : decide (0 + 1 ≤ lim) = true := by decide
      simp only [e1, limBytes]
      rfl
    · have := A.le; simp; omega
    · intro j hj
      have := A.le
      rw [List.getElem?_append_left (by simp; omega), List.getElem?_append_left (by omega)]
      exact A.old j hj
    · refine Or.inr ⟨(h ++ [AObj.row [Value.string s] true]).length, by have := A.le; simp; omega, rfl, ?_⟩
      rw [List.getElem?_append_right (Nat.le_refl _)]; simp [strs]
    · simp
    · intro j _ hj
      rw [List.getElem?_append_left (by simp; omega), List.getElem?_append_left (by omega)]
  · have hbl : b < h.length := lt_of_get hr
    have hr' : (h ++ [AObj.row [Value.string s] true])[b]? = some (.row (strs L) true) := by rw [List.getElem?_append_left hbl]; exact hr
    have hold : loadN (h ++ [AObj.row [Value.string s] true]) b 0 (L.length * 1) = some (strs L) := by
      simp only [loadN, cells?, hr', strs_length]
      rw [if_pos (by omega)]; simp [List.take_of_length_le, strs_length]
    refine ⟨.slice (some ⟨(h ++ [AObj.row [Value.string s] true]).length, 0, some 1⟩) (L.length + 1) (L.length + 1 + 1), (h ++ [AObj.row [Value.string s] true]).set b AObj.dead ++ [AObj.row (strs L ++ [Value.string s]) true], ?_, ⟨?_, ?_, ?_⟩, ?_, ?_⟩
    · simp only [aappend, ti22, elemsLen, ti9, loadElems, if_true, hnew, hold, hr']
      have e1 : decide (L.length + 1 ≤ lim) = true := by simp [hlim]
      simp [e1, limBytes, isCell]
    · have := A.le; simp; omega
    · intro j hj
      have := A.le
      rw [List.getElem?_append_left (by simp; omega), List.getElem?_set_ne (by omega), List.getElem?_append_left (by omega)]
      exact A.old j hj
    · refine Or.inr ⟨(h ++ [AObj.row [Value.string s] true]).length, by have := A.le; simp; omega, by simp, ?_⟩
      rw [List.getElem?_append_right (by simp)]; simp [strs]
    · simp; omega
    · intro j hn hj
      have hne : b ≠ j := by intro e; subst e; exact hn _ hr
      rw [List.getElem?_append_left (by simp; omega), List.getElem?_set_ne hne, List.getElem?_append_left (by omega)]
end Go.Proofs.YtpbmpdocgplhpaaGreatDoor

/-
  'flag.turns' of a word of bytes below 128.
-/
set_option linter.unusedSimpArgs false
set_option linter.unusedVariables false
set_option maxRecDepth 100000
namespace Go.Proofs.YtpbmpdocgplhpaaGreatDoor
open Go Go.AM

def turnAt (w : ByteArray) (i : Nat) : ByteArray := w.extract i w.size ++ w.extract 0 i
def turnsTo (w : ByteArray) (i : Nat) : List ByteArray := (List.range i).map (turnAt w)
def ascii (w : ByteArray) : Prop := ∀ i (h : i < w.size), (w[i]'h).toNat < 128

theorem slice_from (w : ByteArray) (i : Nat) (h : i ≤ w.size) : aslice Tryz.prog 9 (.string w) (some (I i)) none none = some (.string (w.extract i w.size)) := by
  simp only [aslice, ti9, abound, asIdx]
  rw [if_pos ⟨by omega, by omega⟩]; simp
theorem slice_to (w : ByteArray) (i : Nat) (h : i ≤ w.size) : aslice Tryz.prog 9 (.string w) none (some (I i)) none = some (.string (w.extract 0 i)) := by
  simp only [aslice, ti9, abound, asIdx]
  rw [if_pos ⟨by omega, by omega⟩]; simp

theorem turns_loop {X : Ext} (h0 : AHeap) (w : ByteArray) (hw : ascii w) (hs : w.size < 1000000) (r : Nat) (hr0 : h0.length ≤ r) :
    ∀ (t i : Nat) (f : Nat → Value) (h : AHeap) (v : Value), i + t = w.size → Acc h0 h v (turnsTo w i) → h[r]? = some (.siter w i) → Knows f [(0, .string w), (3, v), (6, .pointer (some ⟨r, 0, none⟩))] →
    Fin Tryz.prog X none Tryz.f30.ntmps (lpN Tryz.f30 0) .normal ⟨f, h⟩ (fun e y => (e = .normal ∨ e = .ret) ∧ ∃ v, fresults Tryz.prog Tryz.f30.results.toList y = some v ∧ Acc h0 y.h v (turnsTo w w.size)) := by
  intro t
  induction t with
  | zero =>
    intro i f h v hi A hr hf
    refine Fin_known _ hf ?_
    refine Fin_unrl ?_
    refine Run 1000 ?_
    refine Nxt r w i (by kernel_rfl) (by kernel_rfl) hr (fun hlt => by omega) (fun _ => ?_)
    refine Run 1000 ?_
    refine Fin_cB false (by kernel_rfl) ?_
    refine Run 1000 ?_
    refine Fin_r (by kernel_rfl) ⟨Or.inr rfl, v, by kernel_rfl, ?_⟩
    have : i = w.size := by omega
    rw [← this]; exact A
  | succ t ih =>
    intro i f h v hi A hr hf
    have hlt : i < w.size := by omega
    refine Fin_known _ hf ?_
    refine Fin_unrl ?_
    refine Run 1000 ?_
    refine Nxt r w i (by kernel_rfl) (by kernel_rfl) hr (fun _ => ?_) (fun hn => absurd hlt hn)
    rw [decode_ascii w i hlt (hw i hlt)]
    refine Run 1000 ?_
    refine Fin_cB true (by kernel_rfl) ?_
    refine Run 1000 ?_
    refine Draw (by kernel_rfl) ?_
    refine Run 1000 ?_
    refine Slic 9 (.string w) (.string (w.extract i w.size)) (some (I i)) none none (by kernel_rfl) (by kernel_rfl) (slice_from w i (by omega)) ?_
    refine Run 1000 ?_
    refine Slic 9 (.string w) (.string (w.extract 0 i)) none (some (I i)) none (by kernel_rfl) (by kernel_rfl) (slice_to w i (by omega)) ?_
    refine Run 1000 ?_
    refine Bin .add 9 (.string (w.extract i w.size)) (.string (w.extract 0 i)) (.string (turnAt w i)) (by kernel_rfl) (by kernel_rfl) (by simp [abin, astr, turnAt, lim]; omega) ?_
    refine Run 1000 ?_
    obtain ⟨v', h', ha, A', hle, hkeep⟩ := Acc.app (h0 := h0) (h := h.set r (.siter w (i + 1))) (v := v) (L := turnsTo w i) ⟨by have := A.le; simpa using this, fun j hj => by rw [List.getElem?_set_ne (by omega)]; exact A.old j hj, by
      rcases A.val with hv | ⟨b, hb, hv, hrow⟩
      · exact Or.inl hv
      · refine Or.inr ⟨b, hb, hv, ?_⟩
        have : r ≠ b := by intro e; subst e; rw [hr] at hrow; simp at hrow
        rw [List.getElem?_set_ne this]; exact hrow⟩ (turnAt w i) (by simp [turnsTo]; omega)
    refine Bld 27 1 [(0, .string (turnAt w i))] (.slice (some ⟨(h.set r (.siter w (i + 1))).length, 0, some 1⟩) 1 1) (h.set r (.siter w (i + 1)) ++ [AObj.row [Value.string (turnAt w i)] true]) (by kernel_rfl) (by kernel_rfl) (by simp [abuildSlice, ti22, ti9, zerosOf, afill, splice, isCell, Value.cells, isData]) ?_
    refine Run 1000 ?_
    refine App 27 27 v (.slice (some ⟨(h.set r (.siter w (i + 1))).length, 0, some 1⟩) 1 1) v' h' (by kernel_rfl) (by kernel_rfl) Tryz.underlying27 (by simp) ha ?_
    refine Run 1000 ?_
    have hlt' : r < h.length := lt_of_get hr
    refine Fin_goto (lpN Tryz.f30 0) h' [(0, .string w), (3, v'), (6, .pointer (some ⟨r, 0, none⟩))] (by kernel_rfl) (by kernel_rfl) (by kernel_rfl) (fun f' hf' => ?_)
    refine ih (i + 1) f' h' v' (by omega) ?_ ?_ hf'
    · have : turnsTo w (i + 1) = turnsTo w i ++ [turnAt w i] := by simp [turnsTo, List.range_succ]
      rw [this]; exact A'
    · rw [hkeep r (by intro cs; rw [List.getElem?_set_self hlt']; simp) (by simpa using hlt'), List.getElem?_set_self hlt']

theorem turns_spec {X : Ext} (hX : X 30 = none) (w : ByteArray) (hw : ascii w) (hs : w.size < 1000000) (h : AHeap) :
    Ca Tryz.prog X (.fn 30) [.string w] h (fun v h' => Acc h h' v (turnsTo w w.size)) := by
  refine Ca_fn (fn := Tryz.f30) (c := Tryz.f30.body.getD .skip) hX (by kernel_rfl) (by kernel_rfl) (by kernel_rfl) ?_
  refine Run 1000 ?_
  refine Rng 9 w (by kernel_rfl) (by kernel_rfl) Tryz.underlying9 ?_
  refine Run 1000 ?_
  refine Fin_goto (lpN Tryz.f30 0) (h ++ [.siter w 0]) [(0, .string w), (3, .slice none 0 0), (6, .pointer (some ⟨h.length, 0, none⟩))] (by kernel_rfl) (by kernel_rfl) (by kernel_rfl) (fun f' hf' => ?_)
  exact turns_loop h w hw hs h.length (Nat.le_refl _) w.size 0 f' _ _ (by omega) ⟨by simp, fun j hj => List.getElem?_append_left hj, Or.inl ⟨rfl, rfl⟩⟩ (by simp) hf'
end Go.Proofs.YtpbmpdocgplhpaaGreatDoor

/-
  slices.Min of strings.
-/
set_option linter.unusedSimpArgs false
set_option linter.unusedVariables false
set_option maxRecDepth 100000
namespace Go.Proofs.YtpbmpdocgplhpaaGreatDoor
open Go Go.AM

def minS (a b : ByteArray) : ByteArray := if (Op.bytesLess a.data.toList b.data.toList || a.data.toList == b.data.toList) = true then a else b

theorem min_loop {X : Ext} (h : AHeap) (a : Option Addr) (kk : Nat) (L : List ByteArray) (hL : L.length < 9223372036854775807) (hs : Strs h a L) :
    ∀ (t i : Nat) (m : ByteArray) (f : Nat → Value), i + t = L.length → Knows f [(0, .slice a L.length kk), (3, .string m), (4, I i)] →
    Fin Tryz.prog X none Tryz.f72.ntmps (lpN Tryz.f72 0) .normal ⟨f, h⟩ (fun e y => (e = .normal ∨ e = .ret) ∧ ∃ v, fresults Tryz.prog Tryz.f72.results.toList y = some v ∧ v = .string ((L.drop i).foldl minS m) ∧ y.h = h) := by
  intro t
  induction t with
  | zero =>
    intro i m f hi hf
    refine Fin_known _ hf ?_
    refine Fin_unrl ?_
    refine Run 1000 ?_
    refine Fin_c ((i : Int) < L.length) (by kernel_rfl) (fun h1 => by omega) (fun h2 => ?_)
    refine Run 1000 ?_
    refine Fin_r (by kernel_rfl) ⟨Or.inr rfl, .string m, by kernel_rfl, ?_, rfl⟩
    rw [List.drop_of_length_le (by omega)]; rfl
  | succ t ih =>
    intro i m f hi hf
    obtain ⟨b, o, cs, own, rfl, hb, hc⟩ := hs.2 i (by omega)
    refine Fin_known _ hf ?_
    refine Fin_unrl ?_
    refine Run 1000 ?_
    refine Fin_c ((i : Int) < L.length) (by kernel_rfl) (fun h1 => ?_) (fun h2 => by omega)
    refine Run 1000 ?_
    refine IdxA 27 b o 1 L.length kk .i64 i (by kernel_rfl) (by kernel_rfl) ti22 rfl ti9 rfl (by omega) (by omega) ?_
    refine Run 1000 ?_
    refine Load 9 (.pointer (some ⟨b, o + (i : Int).toNat * 1, none⟩)) (.string L[i]) (by kernel_rfl) (by kernel_rfl) (load_row ti9 rfl hb (by simpa using hc)) ?_
    refine Run 1000 ?_
    refine Fin_goto (lpN Tryz.f72 0) h [(0, .slice (some ⟨b, o, some 1⟩) L.length kk), (3, .string (minS m L[i])), (4, I (IntKind.wrap .i64 ((i : Int) + 1)))] (by kernel_rfl) (by kernel_rfl) (by kernel_rfl) (fun f' hf' => ?_)
    rw [wrap_next (n := L.length) (by omega) hL] at hf'
    have := ih (i + 1) (minS m L[i]) f' (by omega) hf'
    have hd : (L.drop i).foldl minS m = (L.drop (i + 1)).foldl minS (minS m L[i]) := by
      have : L.drop i = L[i] :: L.drop (i + 1) := List.drop_eq_getElem_cons (by omega)
      rw [this, List.foldl_cons]
    rw [hd]; exact this

theorem min_spec {X : Ext} (hX : X 72 = none) (h : AHeap) (a : Option Addr) (kk : Nat) (L : List ByteArray) (hL : L.length < 9223372036854775807) (hs : Strs h a L) (hne : 0 < L.length) :
    Ca Tryz.prog X (.fn 72) [.slice a L.length kk] h (fun v h' => v = .string ((L.drop 1).foldl minS L[0]) ∧ h' = h) := by
  obtain ⟨b, o, cs, own, rfl, hb, hc⟩ := hs.2 0 hne
  refine Ca_fn (fn := Tryz.f72) (c := Tryz.f72.body.getD .skip) hX (by kernel_rfl) (by kernel_rfl) (by kernel_rfl) ?_
  refine Run 1000 ?_
  refine Fin_c ((L.length : Int) < 1) (by kernel_rfl) (fun h1 => by omega) (fun h1 => ?_)
  refine Run 1000 ?_
  refine IdxA 27 b o 1 L.length kk .i64 0 (by kernel_rfl) (by kernel_rfl) ti22 rfl ti9 rfl (by omega) (by omega) ?_
  refine Run 1000 ?_
  refine Load 9 (.pointer (some ⟨b, o + (0 : Int).toNat * 1, none⟩)) (.string L[0]) (by kernel_rfl) (by kernel_rfl) (load_row ti9 rfl hb (by simpa using hc)) ?_
  refine Run 1000 ?_
  refine Fin_goto (lpN Tryz.f72 0) h [(0, .slice (some ⟨b, o, some 1⟩) L.length kk), (3, .string L[0]), (4, I (1 : Nat))] (by kernel_rfl) (by kernel_rfl) (by kernel_rfl) (fun f' hf' => ?_)
  exact min_loop h (some ⟨b, o, some 1⟩) kk L hL hs (L.length - 1) 1 L[0] f' (by omega) hf'
end Go.Proofs.YtpbmpdocgplhpaaGreatDoor

/-
  The reference's Has.
-/
set_option linter.unusedSimpArgs false
set_option linter.unusedVariables false
set_option maxRecDepth 100000
namespace Go.Proofs.YtpbmpdocgplhpaaGreatDoor
open Go Go.AM
theorem turned_spec {X : Ext} (hX : X 43 = none) (w : ByteArray) (i : Nat) (hi : i ≤ w.size) (hw : w.size < 1000000) (h : AHeap) :
    Ca Tryz.prog X (.fn 43) [.string w, I i] h (fun v h' => v = .string (turnAt w i) ∧ h' = h) := by
  refine Ca_fn (fn := Tryz.f43) (c := Tryz.f43.body.getD .skip) hX (by kernel_rfl) (by kernel_rfl) (by kernel_rfl) ?_
  refine Run 1000 ?_
  refine Draw (by kernel_rfl) ?_
  refine Run 1000 ?_
  refine Slic 9 (.string w) (.string (w.extract i w.size)) (some (I i)) none none (by kernel_rfl) (by kernel_rfl) (slice_from w i hi) ?_
  refine Run 1000 ?_
  refine Slic 9 (.string w) (.string (w.extract 0 i)) none (some (I i)) none (by kernel_rfl) (by kernel_rfl) (slice_to w i hi) ?_
  refine Run 1000 ?_
  refine Bin .add 9 (.string (w.extract i w.size)) (.string (w.extract 0 i)) (.string (turnAt w i)) (by kernel_rfl) (by kernel_rfl) (by simp [abin, astr, turnAt, lim]; omega) ?_
  refine Run 1000 ?_
  exact Fin_r (by kernel_rfl) ⟨Or.inr rfl, .string (turnAt w i), by kernel_rfl, rfl, rfl⟩
end Go.Proofs.YtpbmpdocgplhpaaGreatDoor

/-
  Lists of strings that grow by another list.
-/
set_option linter.unusedSimpArgs false
set_option linter.unusedVariables false
set_option maxRecDepth 100000
namespace Go.Proofs.YtpbmpdocgplhpaaGreatDoor
open Go Go.AM

theorem Strs.load {h : AHeap} {a : Option Addr} {L : List ByteArray} (s : Strs h a L) (hne : L ≠ []) : ∃ b o, a = some ⟨b, o, some 1⟩ ∧ loadN h b o L.length = some (strs L) := by
  have h0 : 0 < L.length := List.length_pos_iff.2 hne
  obtain ⟨b, o, cs, own, rfl, hb, _⟩ := s.2 0 h0
  refine ⟨b, o, rfl, ?_⟩
  have hall : ∀ i (hi : i < L.length), cs[o + i]? = some (.string L[i]) := by
    intro i hi
    obtain ⟨b2, o2, cs2, own2, e, hb2, hc2⟩ := s.2 i hi
    simp only [Option.some.injEq, Addr.mk.injEq, and_true] at e
    obtain ⟨rfl, rfl⟩ := e
    rw [hb] at hb2; simp only [Option.some.injEq, AObj.row.injEq] at hb2
    rw [hb2.1]; exact hc2
  have hlen : o + L.length ≤ cs.length := by
    have := hall (L.length - 1) (by omega)
    by_cases hh : o + (L.length - 1) < cs.length
    · omega
    · rw [List.getElem?_eq_none (by omega)] at this; simp at this
  simp only [loadN, cells?, hb]
  rw [if_pos hlen]
  congr 1
  apply List.ext_getElem?
  intro i
  by_cases hi : i < L.length
  · rw [List.getElem?_take, if_pos hi, List.getElem?_drop, hall i hi]; simp [strs, hi]
  · rw [List.getElem?_eq_none (by simp; omega), List.getElem?_eq_none (by rw [strs_length]; omega)]

theorem Acc.appL {h0 h : AHeap} {v : Value} {L R : List ByteArray} (A : Acc h0 h v L) {a : Option Addr} {kk : Nat} (s : Strs h a R) (hL : L.length + R.length < 4294967295) :
    ∃ v' h', aappend Tryz.prog h 27 v (.slice a R.length kk) = some (v', h') ∧ Acc h0 h' v' (L ++ R) ∧ h.length ≤ h'.length := by
  by_cases hR : R = []
  · subst hR
    refine ⟨v, h, ?_, by simpa using A, Nat.le_refl _⟩
    rcases A.val with ⟨rfl, rfl⟩ | ⟨b, hb, rfl, hr⟩
    · simp [aappend, ti22, elemsLen, ti9]
    · simp [aappend, ti22, elemsLen, ti9]
  · obtain ⟨b2, o2, rfl, hload⟩ := s.load hR
    have hpos : 0 < R.length := List.length_pos_iff.2 hR
    have hm : ¬R.length = 0 := by omega
    have hload' : loadN h b2 o2 (R.length * 1) = some (strs R) := by simpa using hload
    have hcell : (strs R).all isCell = true := by simp [strs, isCell]
    have hlim0 : L.length + R.length ≤ lim := by simp only [lim]; omega
    have hlim : decide (L.length + R.length ≤ lim) = true := decide_eq_true hlim0
    rcases A.val with ⟨rfl, rfl⟩ | ⟨b, hb, rfl, hr⟩
    · refine ⟨.slice (some ⟨h.length, 0, some 1⟩) (0 + R.length) (0 + R.length + 1), h ++ [AObj.row (strs R) true], ?_, ⟨?_, ?_, ?_⟩, by simp⟩
      · simp only [List.length_nil] at hlim
        simp only [aappend, ti22, elemsLen, ti9, loadElems, if_true, hload', hm, if_false, hlim, limBytes]
        rfl
      · have := A.le; simp; omega
      · intro j hj; have := A.le; rw [List.getElem?_append_left (by omega)]; exact A.old j hj
      · exact Or.inr ⟨h.length, A.le, by simp, by simp⟩
    · have hold : loadN h b 0 (L.length * 1) = some (strs L) := by
        simp only [loadN, cells?, hr, strs_length]
        rw [if_pos (by omega)]; simp [List.take_of_length_le, strs_length]
      have hbl : b < h.length := lt_of_get hr
      refine ⟨.slice (some ⟨h.length, 0, some 1⟩) (L.length + R.length) (L.length + R.length + 1), h.set b AObj.dead ++ [AObj.row (strs L ++ strs R) true], ?_, ⟨?_, ?_, ?_⟩, by simp⟩
      · simp only [aappend, ti22, elemsLen, ti9, loadElems, if_true, hload', hm, if_false, hlim, limBytes, hold, hr]
        simp [hcell]
      · have := A.le; simp; omega
      · intro j hj; have := A.le
        rw [List.getElem?_append_left (by simp; omega), List.getElem?_set_ne (by omega)]; exact A.old j hj
      · refine Or.inr ⟨h.length, A.le, by simp, ?_⟩
        rw [List.getElem?_append_right (by simp)]; simp [strs]
end Go.Proofs.YtpbmpdocgplhpaaGreatDoor

/-
  The reference's With: a word put into a rising list.
-/
set_option linter.unusedSimpArgs false
set_option linter.unusedVariables false
set_option maxRecDepth 100000
namespace Go.Proofs.YtpbmpdocgplhpaaGreatDoor
open Go Go.AM

def ltS (a b : ByteArray) : Bool := Op.bytesLess a.data.toList b.data.toList
/-- How many words stand before s. -/
def before (L : List ByteArray) (s : ByteArray) : Nat := (L.takeWhile fun x => ltS x s).length
theorem before_le (L : List ByteArray) (s : ByteArray) : before L s ≤ L.length := by unfold before; exact (List.takeWhile_sublist _).length_le

/-- From the loop's head at i on: the loop ends at i + before of the rest; Q is what then follows. -/
theorem slice_upto {a : Option Addr} {h : AHeap} {L : List ByteArray} (s : Strs h a L) (kk k : Nat) (hk : k ≤ L.length) :
    ∃ a' kk', aslice Tryz.prog 27 (.slice a L.length kk) none (some (I k)) none = some (.slice a' (L.take k).length kk') ∧ Strs h a' (L.take k) := by
  by_cases hne : L = []
  · subst hne
    have : k = 0 := by simpa using hk
    subst this
    cases a with
    | none => exact ⟨none, 0, by simp [aslice, ti22, ti9, abound, asIdx], Or.inl rfl, by intro i hi; simp at hi⟩
    | some ad =>
      rcases s.1 with e | ⟨b, o, e⟩
      · simp at e
      · simp only [Option.some.injEq] at e; subst e
        exact ⟨some ⟨b, o, some 1⟩, _, by simp [aslice, ti22, ti9, abound, asIdx]; rfl, Or.inr ⟨b, o, rfl⟩, by intro i hi; simp at hi⟩
  · obtain ⟨b, o, rfl, _⟩ := s.load hne
    refine ⟨some ⟨b, o, some 1⟩, _, by simp only [aslice, ti22, ti9, abound, asIdx]; rw [if_pos ⟨by omega, by omega⟩]; simp [List.length_take, Nat.min_eq_left hk]; rfl, Or.inr ⟨b, o, rfl⟩, ?_⟩
    intro i hi
    simp at hi
    obtain ⟨b2, o2, cs, own, e, h1, h2⟩ := s.2 i (by omega)
    exact ⟨b2, o2, cs, own, e, h1, by simpa using h2⟩
theorem slice_on {a : Option Addr} {h : AHeap} {L : List ByteArray} (s : Strs h a L) (kk k : Nat) (hk : k ≤ L.length) :
    ∃ a' kk', aslice Tryz.prog 27 (.slice a L.length kk) (some (I k)) none none = some (.slice a' (L.drop k).length kk') ∧ Strs h a' (L.drop k) := by
  rcases s.1 with rfl | ⟨b, o, rfl⟩
  · have : L = [] := by
      by_cases hne : L = []
      · exact hne
      · obtain ⟨b, o, e, _⟩ := s.load hne; simp at e
    subst this
    have : k = 0 := by simpa using hk
    subst this
    exact ⟨none, 0, by simp [aslice, ti22, ti9, abound, asIdx], Or.inl rfl, by intro i hi; simp at hi⟩
  · refine ⟨some ⟨b, o + k * 1, some 1⟩, _, by simp only [aslice, ti22, ti9, abound, asIdx]; rw [if_pos ⟨by omega, by omega⟩]; simp; rfl, Or.inr ⟨b, o + k * 1, rfl⟩, ?_⟩
    intro i hi
    simp at hi
    obtain ⟨b2, o2, cs, own, e, h1, h2⟩ := s.2 (k + i) (by omega)
    simp only [Option.some.injEq, Addr.mk.injEq, and_true] at e
    obtain ⟨rfl, rfl⟩ := e
    refine ⟨b, o + k * 1, cs, own, rfl, h1, ?_⟩
    rw [show o + k * 1 + i = o + (k + i) by omega]
    simpa using h2
end Go.Proofs.YtpbmpdocgplhpaaGreatDoor

/-
  Plain functions of lists: an insertion sort and a compacting, step by step as the library's text does it.
-/
set_option linter.unusedSimpArgs false
set_option linter.unusedVariables false
set_option maxRecDepth 100000
namespace Go.Proofs.YtpbmpdocgplhpaaGreatDoor
open Go Go.AM
variable {α β : Type}

/-- The item at place j goes down as long as it is less than the one before it. -/
def sinkM (lt : α → α → Bool) : Nat → List α → List α
  | 0, L => L
  | j + 1, L => match L[j + 1]?, L[j]? with
    | some a, some b => if lt a b = true then sinkM lt j ((L.set (j + 1) b).set j a) else L
    | _, _ => L
theorem sinkM_length (lt : α → α → Bool) : ∀ (j : Nat) (L : List α), (sinkM lt j L).length = L.length := by
  intro j
  induction j with
  | zero => intro L; rfl
  | succ j ih => intro L; simp only [sinkM]; split
                 · split
                   · rw [ih]; simp
                   · rfl
                 · rfl
def isortM (lt : α → α → Bool) : Nat → Nat → List α → List α
  | 0, _, L => L
  | t + 1, i, L => isortM lt t (i + 1) (sinkM lt i L)
theorem isortM_length (lt : α → α → Bool) : ∀ (t i : Nat) (L : List α), (isortM lt t i L).length = L.length := by
  intro t
  induction t with
  | zero => intro i L; rfl
  | succ t ih => intro i L; simp only [isortM]; rw [ih, sinkM_length]
def sortM (lt : α → α → Bool) (L : List α) : List α := isortM lt (L.length - 1) 1 L
theorem sortM_length (lt : α → α → Bool) (L : List α) : (sortM lt L).length = L.length := isortM_length lt _ _ _

/-- The second loop of Compact: j reads, k writes. -/
def compIn (eq : α → α → Bool) : Nat → Nat → Nat → List α → Nat × List α
  | 0, k, _, L => (k, L)
  | t + 1, k, j, L => match L[j]?, L[j - 1]? with
    | some a, some b => if eq a b = true then compIn eq t k (j + 1) L else compIn eq t (k + 1) (j + 1) (L.set k a)
    | _, _ => (k, L)
def compOut (eq : α → α → Bool) : Nat → Nat → List α → List α
  | 0, _, L => L
  | t + 1, k, L => match L[k]?, L[k - 1]? with
    | some a, some b => if eq a b = true then (let r := compIn eq (L.length - k - 1) k (k + 1) L; r.2.take r.1) else compOut eq t (k + 1) L
    | _, _ => L
def compactM (eq : α → α → Bool) (L : List α) : List α := compOut eq (L.length - 1) 1 L

theorem compIn_length (eq : α → α → Bool) : ∀ (t k j : Nat) (L : List α), (compIn eq t k j L).2.length = L.length := by
  intro t
  induction t with
  | zero => intro k j L; rfl
  | succ t ih =>
    intro k j L; simp only [compIn]; split
    · split
      · exact ih _ _ _
      · rw [ih]; simp
    · rfl
/-! ### The same of other names of the items -/
theorem sinkM_map (lt : α → α → Bool) (lt' : β → β → Bool) (g : β → α) (hg : ∀ a b, lt (g a) (g b) = lt' a b) : ∀ (j : Nat) (L : List β), sinkM lt j (L.map g) = (sinkM lt' j L).map g := by
  intro j
  induction j with
  | zero => intro L; rfl
  | succ j ih =>
    intro L
    simp only [sinkM, List.getElem?_map]
    cases L[j + 1]? with
    | none => rfl
    | some a => cases L[j]? with
      | none => rfl
      | some b =>
        simp only [Option.map_some, hg]
        split
        · rw [← ih]; simp [List.map_set]
        · rfl
theorem isortM_map (lt : α → α → Bool) (lt' : β → β → Bool) (g : β → α) (hg : ∀ a b, lt (g a) (g b) = lt' a b) : ∀ (t i : Nat) (L : List β), isortM lt t i (L.map g) = (isortM lt' t i L).map g := by
  intro t
  induction t with
  | zero => intro i L; rfl
  | succ t ih => intro i L; simp only [isortM]; rw [sinkM_map lt lt' g hg, ih]
theorem sortM_map (lt : α → α → Bool) (lt' : β → β → Bool) (g : β → α) (hg : ∀ a b, lt (g a) (g b) = lt' a b) (L : List β) : sortM lt (L.map g) = (sortM lt' L).map g := by
  simp only [sortM, List.length_map]; exact isortM_map lt lt' g hg _ _ _
theorem compIn_map (eq : α → α → Bool) (eq' : β → β → Bool) (g : β → α) (hg : ∀ a b, eq (g a) (g b) = eq' a b) : ∀ (t k j : Nat) (L : List β), compIn eq t k j (L.map g) = ((compIn eq' t k j L).1, (compIn eq' t k j L).2.map g) := by
  intro t
  induction t with
  | zero => intro k j L; rfl
  | succ t ih =>
    intro k j L
    simp only [compIn, List.getElem?_map]
    cases L[j]? with
    | none => rfl
    | some a => cases L[j - 1]? with
      | none => rfl
      | some b =>
        simp only [Option.map_some, hg]
        split
        · exact ih _ _ _
        · rw [← ih]; simp [List.map_set]
theorem compOut_map (eq : α → α → Bool) (eq' : β → β → Bool) (g : β → α) (hg : ∀ a b, eq (g a) (g b) = eq' a b) : ∀ (t k : Nat) (L : List β), compOut eq t k (L.map g) = (compOut eq' t k L).map g := by
  intro t
  induction t with
  | zero => intro k L; rfl
  | succ t ih =>
    intro k L
    simp only [compOut, List.getElem?_map]
    cases L[k]? with
    | none => rfl
    | some a => cases L[k - 1]? with
      | none => rfl
      | some b =>
        simp only [Option.map_some, hg]
        split
        · simp only [List.length_map, compIn_map eq eq' g hg]; simp [List.map_take]
        · exact ih _ _
theorem compactM_map (eq : α → α → Bool) (eq' : β → β → Bool) (g : β → α) (hg : ∀ a b, eq (g a) (g b) = eq' a b) (L : List β) : compactM eq (L.map g) = (compactM eq' L).map g := by
  simp only [compactM, List.length_map]; exact compOut_map eq eq' g hg _ _ _
end Go.Proofs.YtpbmpdocgplhpaaGreatDoor

/-
  Words as lists of bytes: turns, whole words, all words, rings; plain functions that the kernel can run.
-/
set_option linter.unusedSimpArgs false
set_option linter.unusedVariables false
set_option maxRecDepth 100000
namespace Go.Proofs.YtpbmpdocgplhpaaGreatDoor
open Go Go.AM

def gB (l : List UInt8) : ByteArray := ⟨⟨l⟩⟩
theorem gB_list (l : List UInt8) : (gB l).data.toList = l := rfl
theorem gB_size (l : List UInt8) : (gB l).size = l.length := rfl
theorem gB_of (s : ByteArray) : gB s.data.toList = s := by cases s; rfl
theorem gB_inj {a b : List UInt8} (h : gB a = gB b) : a = b := by
  have := congrArg (fun s => s.data.toList) h
  simpa [gB_list] using this
theorem gB_append (a b : List UInt8) : gB a ++ gB b = gB (a ++ b) := by
  apply ByteArray.ext
  simp [gB]
theorem gB_extract (l : List UInt8) (i j : Nat) : (gB l).extract i j = gB ((l.take j).drop i) := by
  apply ByteArray.ext
  apply Array.ext'
  simp [gB, List.extract_eq_take_drop, List.drop_take]
theorem ltS_gB (a b : List UInt8) : ltS (gB a) (gB b) = Op.bytesLess a b := rfl
def eqL (a b : List UInt8) : Bool := a == b
theorem seq_gB (a b : List UInt8) : seq (gB a) (gB b) = eqL a b := rfl

def turnL (l : List UInt8) (i : Nat) : List UInt8 := l.drop i ++ l.take i
theorem turnAt_gB (l : List UInt8) (i : Nat) (hi : i ≤ l.length) : turnAt (gB l) i = gB (turnL l i) := by
  unfold turnAt turnL
  rw [gB_extract, gB_extract, gB_append, gB_size]
  congr 1
  simp
def turnsL (l : List UInt8) : List (List UInt8) := (List.range l.length).map (turnL l)
theorem turnsTo_gB (l : List UInt8) : turnsTo (gB l) (gB l).size = (turnsL l).map gB := by
  unfold turnsTo turnsL
  rw [List.map_map, gB_size]
  apply List.map_congr_left
  intro i hi
  simp at hi
  exact turnAt_gB l i (by omega)

/-- 'sorted' of a few strings; turns in order, each once; whole words; a word's first turn. -/
def sortedF (L : List ByteArray) : List ByteArray := compactM seq (sortM ltS L)
def sortedL (L : List (List UInt8)) : List (List UInt8) := compactM eqL (sortM Op.bytesLess L)
theorem sorted_gB (L : List (List UInt8)) : sortedF (L.map gB) = (sortedL L).map gB := by
  unfold sortedF sortedL
  rw [sortM_map ltS Op.bytesLess gB ltS_gB, compactM_map seq eqL gB seq_gB]
def wholeF (w : ByteArray) : Bool := decide (((sortedF (turnsTo w w.size)).length : Int) = w.size)
def wholeL (l : List UInt8) : Bool := Nat.beq (sortedL (turnsL l)).length l.length
theorem whole_gB (l : List UInt8) : wholeF (gB l) = wholeL l := by
  unfold wholeF wholeL
  rw [turnsTo_gB, sorted_gB, List.length_map, gB_size, Bool.eq_iff_iff]
  rw [decide_eq_true_iff, Nat.beq_eq]
  omega
def firstF (w : ByteArray) : ByteArray := ((turnsTo w w.size).drop 1).foldl minS ((turnsTo w w.size).getD 0 ByteArray.empty)
def minL (a b : List UInt8) : List UInt8 := if (Op.bytesLess a b || a == b) = true then a else b
def firstL (l : List UInt8) : List UInt8 := ((turnsL l).drop 1).foldl minL ((turnsL l).getD 0 [])
theorem minS_gB (a b : List UInt8) : minS (gB a) (gB b) = gB (minL a b) := (apply_ite gB ((Op.bytesLess a b || a == b) = true) a b).symm
theorem foldl_minS : ∀ (L : List (List UInt8)) (a : List UInt8), (L.map gB).foldl minS (gB a) = gB (L.foldl minL a) := by
  intro L
  induction L with
  | nil => intro a; rfl
  | cons b L ih => intro a; simp only [List.map_cons, List.foldl_cons, minS_gB]; exact ih _
theorem first_gB (l : List UInt8) : firstF (gB l) = gB (firstL l) := by
  unfold firstF firstL
  rw [turnsTo_gB, ← List.map_drop]
  have : ((turnsL l).map gB).getD 0 ByteArray.empty = gB ((turnsL l).getD 0 []) := by
    cases turnsL l <;> rfl
  rw [this, foldl_minS]

/-- All words that go on from one, over the letters; and over k flags. -/
def growL (cs : List UInt8) : Nat → List UInt8 → List (List UInt8)
  | 0, w => [w]
  | d + 1, w => cs.flatMap fun c => growL cs d (w ++ [c])
def lettersL (k : Nat) : List UInt8 := [97, 98, 99, 100].take k
def wordsL (k n : Nat) : List (List UInt8) := growL (lettersL k) n []
def ringsL (k n : Nat) : List (List UInt8) := (wordsL k n).filter fun w => wholeL w && eqL w (firstL w)
/-- As 'rings' answers. -/
def ringsF (k n : Nat) : List ByteArray := (ringsL k n).map gB
end Go.Proofs.YtpbmpdocgplhpaaGreatDoor
