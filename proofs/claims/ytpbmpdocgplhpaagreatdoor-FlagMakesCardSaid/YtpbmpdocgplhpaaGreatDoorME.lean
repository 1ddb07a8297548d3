/-
  MERGED BY PROGRAM out of the texts With2 RTurns RAll RRings.
-/
import Derived.Test.YtpbmpdocgplhpaaGreatDoorMD
import Derived.Test.YtpbmpdocgplhpaaGreatDoorMV
/-
  The reference's With and Turns: words put into rising lists.
-/
set_option linter.unusedSimpArgs false
set_option linter.unusedVariables false
set_option maxRecDepth 100000
namespace Go.Proofs.YtpbmpdocgplhpaaGreatDoor
open Go Go.AM

theorem Acc.trans {h0 h h2 : AHeap} {v : Value} {L : List ByteArray} (g : Grew h0 h) (A : Acc h h2 v L) : Acc h0 h2 v L := by
  refine ⟨Nat.le_trans g.le A.le, fun j hj => (A.old j (Nat.lt_of_lt_of_le hj g.le)).trans (g.get hj), ?_⟩
  rcases A.val with e | ⟨b, hb, e, hr⟩
  · exact Or.inl e
  · exact Or.inr ⟨b, Nat.le_trans g.le hb, e, hr⟩

/-- A string put into a list behind k others. -/
def putAt (L : List ByteArray) (k : Nat) (s : ByteArray) : List ByteArray := L.take k ++ [s] ++ L.drop k
theorem put_in {a : Option Addr} {h : AHeap} {L : List ByteArray} (hs : Strs h a L) (kk k : Nat) (hk : k ≤ L.length) (s : ByteArray) (hL : L.length < 1000000) :
    ∃ a1 k1 v1 h1 v2 h2 a2 k2 v3 h3, aslice Tryz.prog 27 (.slice a L.length kk) none (some (I k)) none = some (.slice a1 (L.take k).length k1) ∧
      aappend Tryz.prog h 27 (.slice none 0 0) (.slice a1 (L.take k).length k1) = some (v1, h1) ∧
      aappend Tryz.prog (h1 ++ [.row [.string s] true]) 27 v1 (.slice (some ⟨h1.length, 0, some 1⟩) 1 1) = some (v2, h2) ∧
      aslice Tryz.prog 27 (.slice a L.length kk) (some (I k)) none none = some (.slice a2 (L.drop k).length k2) ∧
      aappend Tryz.prog h2 27 v2 (.slice a2 (L.drop k).length k2) = some (v3, h3) ∧ Acc h h3 v3 (putAt L k s) := by
  obtain ⟨a1, k1, e1, s1⟩ := slice_upto hs kk k hk
  obtain ⟨v1, h1, e2, A1, _⟩ := (Acc.nil h).appL s1 (kk := k1) (by simp; omega)
  obtain ⟨v2, h2, e3, A2, _, _⟩ := A1.app s (by simp; omega)
  obtain ⟨a2, k2, e4, s2⟩ := slice_on hs kk k hk
  obtain ⟨v3, h3, e5, A3, _⟩ := A2.appL (s2.grow A2.grew) (kk := k2) (by simp; omega)
  exact ⟨a1, k1, v1, h1, v2, h2, a2, k2, v3, h3, e1, e2, e3, e4, e5, by simpa [putAt] using A3⟩

/-- How far the words before s go, from k on. -/
def bef (L : List ByteArray) (s : ByteArray) (k : Nat) : Nat := k + ((L.drop k).takeWhile fun x => ltS x s).length
theorem bef_end {L : List ByteArray} {s : ByteArray} : bef L s L.length = L.length := by simp [bef]
theorem bef_step {L : List ByteArray} {s : ByteArray} {k : Nat} {x : ByteArray} (hx : L[k]? = some x) : bef L s k = if ltS x s = true then bef L s (k + 1) else k := by
  have hk : k < L.length := by
    by_cases h : k < L.length
    · exact h
    · rw [List.getElem?_eq_none (by omega)] at hx; simp at hx
  have e : L.drop k = x :: L.drop (k + 1) := by
    rw [List.getElem?_eq_getElem hk] at hx
    rw [List.drop_eq_getElem_cons hk, Option.some.inj hx]
  unfold bef
  rw [e, List.takeWhile_cons]
  split
  · simp; omega
  · simp
theorem bef_zero (L : List ByteArray) (s : ByteArray) : bef L s 0 = before L s := by simp [bef, before]
theorem Strs.at {h : AHeap} {a : Option Addr} {L : List ByteArray} (s : Strs h a L) {i : Nat} (hi : i < L.length) : ∃ b o, a = some ⟨b, o, some 1⟩ ∧ aload Tryz.prog h 9 (.pointer (some ⟨b, o + i * 1, none⟩)) = some (.string L[i]) := by
  obtain ⟨b, o, cs, own, rfl, hb, hc⟩ := s.2 i hi
  exact ⟨b, o, rfl, load_row ti9 rfl hb (by simpa using hc)⟩

theorem with_loop {X : Ext} {Q : AExit → FS → Prop} (h : AHeap) (a : Option Addr) (kk : Nat) (L : List ByteArray) (s : ByteArray) (hL : L.length < 1000000) (hs : Strs h a L)
    (K : ∀ f', Knows f' [(0, .slice a L.length kk), (1, .string s), (4, .slice none 0 0), (5, I (before L s))] → Fin Tryz.prog X none Tryz.f17.ntmps (brk (lpN Tryz.f17 0)) .normal ⟨f', h⟩ Q) :
    ∀ (t k : Nat) (f : Nat → Value), k + t = L.length → bef L s k = before L s → Knows f [(0, .slice a L.length kk), (1, .string s), (4, .slice none 0 0), (5, I k)] →
    Fin Tryz.prog X none Tryz.f17.ntmps (lpN Tryz.f17 0) .normal ⟨f, h⟩ Q := by
  intro t
  induction t with
  | zero =>
    intro k f hk hb hf
    obtain rfl : k = L.length := by omega
    rw [bef_end] at hb
    refine Fin_known _ hf ?_
    refine Fin_unrl ?_
    refine Run 1000 ?_
    refine Fin_g ((L.length : Int) < L.length) (by kernel_rfl) (by kernel_rfl) (fun h1 => by omega) (fun h1 => ?_)
    refine Run 1000 ?_
    refine Fin_cB false (by kernel_rfl) ?_
    refine Esc (brk (lpN Tryz.f17 0)) h [(0, .slice a L.length kk), (1, .string s), (4, .slice none 0 0), (5, I L.length)] (by kernel_rfl) rfl (by kernel_rfl) (fun f' hf' => ?_)
    refine K f' ?_
    rw [← hb]; exact hf'
  | succ t ih =>
    intro k f hk hb hf
    have hlt : k < L.length := by omega
    obtain ⟨b, o, rfl, hld⟩ := hs.at hlt
    have hstep := bef_step (s := s) (List.getElem?_eq_getElem hlt)
    refine Fin_known _ hf ?_
    refine Fin_unrl ?_
    refine Run 1000 ?_
    refine Fin_g ((k : Int) < L.length) (by kernel_rfl) (by kernel_rfl) (fun h1 => ?_) (fun h1 => by omega)
    refine Run 1000 ?_
    refine IdxA 27 b o 1 L.length kk .i64 k (by kernel_rfl) (by kernel_rfl) ti22 rfl ti9 rfl (by omega) (by omega) ?_
    refine Run 1000 ?_
    refine Load 9 (.pointer (some ⟨b, o + (k : Int).toNat * 1, none⟩)) (.string L[k]) (by kernel_rfl) (by kernel_rfl) (by simpa using hld) ?_
    refine Run 1000 ?_
    refine Fin_cB (ltS L[k] s) (by kernel_rfl) ?_
    cases hq : ltS L[k] s with
    | true =>
      rw [hq, if_pos rfl] at hstep
      refine Run 1000 ?_
      refine Fin_goto (lpN Tryz.f17 0) h [(0, .slice (some ⟨b, o, some 1⟩) L.length kk), (1, .string s), (4, .slice none 0 0), (5, I (IntKind.wrap .i64 ((k : Int) + 1)))] (by kernel_rfl) (by kernel_rfl) (by kernel_rfl) (fun f' hf' => ?_)
      rw [wrap_next (n := L.length) hlt (by omega)] at hf'
      exact ih (k + 1) f' (by omega) (by rw [← hstep]; exact hb) hf'
    | false =>
      rw [hq, if_neg (by decide)] at hstep
      refine Esc (brk (lpN Tryz.f17 0)) h [(0, .slice (some ⟨b, o, some 1⟩) L.length kk), (1, .string s), (4, .slice none 0 0), (5, I k)] (by kernel_rfl) rfl (by kernel_rfl) (fun f' hf' => ?_)
      rw [← hstep, hb] at hf'
      exact K f' hf'

/-- What 'With' answers. -/
def withS (L : List ByteArray) (s : ByteArray) : List ByteArray := putAt L (before L s) s
theorem with_spec {X : Ext} (hX : X 17 = none) (h : AHeap) (a : Option Addr) (kk : Nat) (L : List ByteArray) (s : ByteArray) (hL : L.length < 1000000) (hs : Strs h a L) :
    Ca Tryz.prog X (.fn 17) [.slice a L.length kk, .string s] h (fun v h' => Acc h h' v (withS L s)) := by
  refine Ca_fn (fn := Tryz.f17) (c := Tryz.f17.body.getD .skip) hX (by kernel_rfl) (by kernel_rfl) (by kernel_rfl) ?_
  refine Run 1000 ?_
  refine Fin_goto (lpN Tryz.f17 0) h [(0, .slice a L.length kk), (1, .string s), (4, .slice none 0 0), (5, I (0 : Nat))] (by kernel_rfl) (by kernel_rfl) (by kernel_rfl) (fun f' hf' => ?_)
  refine with_loop h a kk L s hL hs (fun f2 hf2 => ?_) L.length 0 f' (by omega) (bef_zero L s) hf'
  obtain ⟨a1, k1, v1, h1, v2, h2, a2, k2, v3, h3, e1, e2, e3, e4, e5, A⟩ := put_in hs kk (before L s) (before_le L s) s hL
  refine Fin_known _ hf2 ?_
  refine Run 1000 ?_
  refine Slic 27 (.slice a L.length kk) _ none (some (I (before L s))) none (by kernel_rfl) (by kernel_rfl) e1 ?_
  refine Run 1000 ?_
  refine App 27 27 (.slice none 0 0) (.slice a1 (L.take (before L s)).length k1) v1 h1 (by kernel_rfl) (by kernel_rfl) Tryz.underlying27 (by simp) e2 ?_
  refine Run 1000 ?_
  refine Bld 27 1 [(0, .string s)] (.slice (some ⟨h1.length, 0, some 1⟩) 1 1) (h1 ++ [AObj.row [Value.string s] true]) (by kernel_rfl) (by kernel_rfl) (by simp [abuildSlice, ti22, ti9, zerosOf, afill, splice, isCell, Value.cells, isData]) ?_
  refine Run 1000 ?_
  refine App 27 27 v1 (.slice (some ⟨h1.length, 0, some 1⟩) 1 1) v2 h2 (by kernel_rfl) (by kernel_rfl) Tryz.underlying27 (by simp) e3 ?_
  refine Run 1000 ?_
  refine Slic 27 (.slice a L.length kk) _ (some (I (before L s))) none none (by kernel_rfl) (by kernel_rfl) e4 ?_
  refine Run 1000 ?_
  refine App 27 27 v2 (.slice a2 (L.drop (before L s)).length k2) v3 h3 (by kernel_rfl) (by kernel_rfl) Tryz.underlying27 (by simp) e5 ?_
  refine Run 1000 ?_
  exact Fin_r (by kernel_rfl) ⟨Or.inr rfl, v3, by kernel_rfl, A⟩
end Go.Proofs.YtpbmpdocgplhpaaGreatDoor

/-
  The reference's Turns and Whole.
-/
set_option linter.unusedSimpArgs false
set_option linter.unusedVariables false
set_option maxRecDepth 100000
namespace Go.Proofs.YtpbmpdocgplhpaaGreatDoor
open Go Go.AM

def insT (L : List ByteArray) (t : ByteArray) : List ByteArray := match L[before L t]? with
  | some x => if seq x t = true then L else putAt L (before L t) t
  | none => putAt L (before L t) t
def rTurnsTo (w : ByteArray) (n : Nat) : List ByteArray := (List.range n).foldl (fun L i => insT L (turnAt w i)) []
theorem rTurns_succ (w : ByteArray) (n : Nat) : rTurnsTo w (n + 1) = insT (rTurnsTo w n) (turnAt w n) := by simp [rTurnsTo, List.range_succ]
theorem putAt_length (L : List ByteArray) (k : Nat) (s : ByteArray) (hk : k ≤ L.length) : (putAt L k s).length = L.length + 1 := by simp [putAt]; omega
theorem insT_length (L : List ByteArray) (t : ByteArray) : (insT L t).length ≤ L.length + 1 := by
  unfold insT
  split
  · split
    · omega
    · rw [putAt_length _ _ _ (before_le L t)]; omega
  · rw [putAt_length _ _ _ (before_le L t)]; omega
theorem rTurnsTo_length (w : ByteArray) : ∀ n, (rTurnsTo w n).length ≤ n := by
  intro n
  induction n with
  | zero => simp [rTurnsTo]
  | succ n ih => rw [rTurns_succ]; have := insT_length (rTurnsTo w n) (turnAt w n); omega

theorem rt_inner {X : Ext} {Q : AExit → FS → Prop} (h : AHeap) (w : ByteArray) (i : Nat) (a : Option Addr) (kk : Nat) (L : List ByteArray) (s : ByteArray) (hL : L.length < 1000000) (hs : Strs h a L)
    (K : ∀ f', Knows f' [(0, .string w), (3, .slice a L.length kk), (4, I i), (5, .string s), (6, I (before L s))] → Fin Tryz.prog X none Tryz.f18.ntmps (brk (lpN Tryz.f18 1)) .normal ⟨f', h⟩ Q) :
    ∀ (t k : Nat) (f : Nat → Value), k + t = L.length → bef L s k = before L s → Knows f [(0, .string w), (3, .slice a L.length kk), (4, I i), (5, .string s), (6, I k)] →
    Fin Tryz.prog X none Tryz.f18.ntmps (lpN Tryz.f18 1) .normal ⟨f, h⟩ Q := by
  intro t
  induction t with
  | zero =>
    intro k f hk hb hf
    obtain rfl : k = L.length := by omega
    rw [bef_end] at hb
    refine Fin_known _ hf ?_
    refine Fin_unrl ?_
    refine Run 1000 ?_
    refine Fin_g ((L.length : Int) < L.length) (by kernel_rfl) (by kernel_rfl) (fun h1 => by omega) (fun h1 => ?_)
    refine Run 1000 ?_
    refine Fin_cB false (by kernel_rfl) ?_
    refine Esc (brk (lpN Tryz.f18 1)) h [(0, .string w), (3, .slice a L.length kk), (4, I i), (5, .string s), (6, I L.length)] (by kernel_rfl) rfl (by kernel_rfl) (fun f' hf' => ?_)
    refine K f' ?_
    rw [← hb]; exact hf'
  | succ t ih =>
    intro k f hk hb hf
    have hlt : k < L.length := by omega
    obtain ⟨b, o, rfl, hld⟩ := hs.at hlt
    have hstep := bef_step (s := s) (List.getElem?_eq_getElem hlt)
    refine Fin_known _ hf ?_
    refine Fin_unrl ?_
    refine Run 1000 ?_
    refine Fin_g ((k : Int) < L.length) (by kernel_rfl) (by kernel_rfl) (fun h1 => ?_) (fun h1 => by omega)
    refine Run 1000 ?_
    refine IdxA 27 b o 1 L.length kk .i64 k (by kernel_rfl) (by kernel_rfl) ti22 rfl ti9 rfl (by omega) (by omega) ?_
    refine Run 1000 ?_
    refine Load 9 (.pointer (some ⟨b, o + (k : Int).toNat * 1, none⟩)) (.string L[k]) (by kernel_rfl) (by kernel_rfl) (by simpa using hld) ?_
    refine Run 1000 ?_
    refine Fin_cB (ltS L[k] s) (by kernel_rfl) ?_
    cases hq : ltS L[k] s with
    | true =>
      rw [hq, if_pos rfl] at hstep
      refine Run 1000 ?_
      refine Fin_goto (lpN Tryz.f18 1) h [(0, .string w), (3, .slice (some ⟨b, o, some 1⟩) L.length kk), (4, I i), (5, .string s), (6, I (IntKind.wrap .i64 ((k : Int) + 1)))] (by kernel_rfl) (by kernel_rfl) (by kernel_rfl) (fun f' hf' => ?_)
      rw [wrap_next (n := L.length) hlt (by omega)] at hf'
      exact ih (k + 1) f' (by omega) (by rw [← hstep]; exact hb) hf'
    | false =>
      rw [hq, if_neg (by decide)] at hstep
      refine Esc (brk (lpN Tryz.f18 1)) h [(0, .string w), (3, .slice (some ⟨b, o, some 1⟩) L.length kk), (4, I i), (5, .string s), (6, I k)] (by kernel_rfl) rfl (by kernel_rfl) (fun f' hf' => ?_)
      refine K f' ?_
      rw [← hb, hstep]; exact hf'

theorem rt_outer {X : Ext} (hX : X 43 = none) (h0 : AHeap) (w : ByteArray) (hw : w.size < 100000) :
    ∀ (t i : Nat) (f : Nat → Value) (h : AHeap) (v : Value), i + t = w.size → Acc h0 h v (rTurnsTo w i) → Knows f [(0, .string w), (3, v), (4, I i)] →
    Fin Tryz.prog X none Tryz.f18.ntmps (lpN Tryz.f18 0) .normal ⟨f, h⟩ (fun e y => (e = .normal ∨ e = .ret) ∧ ∃ v, fresults Tryz.prog Tryz.f18.results.toList y = some v ∧ Acc h0 y.h v (rTurnsTo w w.size)) := by
  intro t
  induction t with
  | zero =>
    intro i f h v hi A hf
    obtain rfl : i = w.size := by omega
    refine Fin_known _ hf ?_
    refine Fin_unrl ?_
    refine Run 1000 ?_
    refine Fin_c ((w.size : Int) < w.size) (by kernel_rfl) (fun h1 => by omega) (fun h1 => ?_)
    refine Run 1000 ?_
    exact Fin_r (by kernel_rfl) ⟨Or.inr rfl, v, by kernel_rfl, A⟩
  | succ t ih =>
    intro i f h v hi A hf
    have hw1 : IntKind.wrap .i64 ((i : Int) + 1) = ((i + 1 : Nat) : Int) := wrap_next (n := w.size) (by omega) (by omega)
    have hlen := rTurnsTo_length w i
    obtain ⟨a, kk, rfl, hs⟩ := A.as_strs
    obtain ⟨s, es⟩ : ∃ s, s = turnAt w i := ⟨_, rfl⟩
    obtain ⟨L, eL⟩ : ∃ L, L = rTurnsTo w i := ⟨_, rfl⟩
    have hsucc : rTurnsTo w (i + 1) = insT L s := by rw [rTurns_succ, es, eL]
    refine Fin_known _ hf ?_
    refine Fin_unrl ?_
    refine Run 1000 ?_
    refine Fin_c ((i : Int) < w.size) (by kernel_rfl) (fun h1 => ?_) (fun h1 => by omega)
    refine Run 1000 ?_
    refine Fin_call 43 [.string w, I i] (by kernel_rfl) (by kernel_rfl) (turned_spec hX w i (by omega) (by omega) h) (fun v1 hh1 hv1 => ?_)
    obtain ⟨rfl, rfl⟩ := hv1
    rw [← es]
    rw [← eL] at hs A hlen
    refine Run 1000 ?_
    refine Fin_goto (lpN Tryz.f18 1) hh1 [(0, .string w), (3, .slice a L.length kk), (4, I i), (5, .string s), (6, I (0 : Nat))] (by kernel_rfl) rfl (by rw [eL]; kernel_rfl) (fun f1 hf1 => ?_)
    refine rt_inner hh1 w i a kk L s (by omega) hs (fun f2 hf2 => ?_) L.length 0 f1 (by omega) (bef_zero L s) hf1
    have hble := before_le L s
    -- the word is put in
    have put : ∀ f3, Knows f3 [(0, .string w), (3, .slice a L.length kk), (4, I i), (5, .string s), (6, I (before L s))] → insT L s = putAt L (before L s) s → True := fun _ _ _ => trivial
    obtain ⟨a1, k1, v1, h1, v2, h2, a2, k2, v3, h3, e1, e2, e3, e4, e5, A3⟩ := put_in hs kk (before L s) hble s (by omega)
    refine Fin_known _ hf2 ?_
    refine Run 1000 ?_
    refine Fin_g ((before L s : Int) < L.length) (by kernel_rfl) (by kernel_rfl) (fun hlt => ?_) (fun hlt => ?_)
    · have hlt' : before L s < L.length := by omega
      obtain ⟨b, o, rfl, hld⟩ := hs.at hlt'
      have hx := List.getElem?_eq_getElem hlt'
      refine Run 1000 ?_
      refine IdxA 27 b o 1 L.length kk .i64 (before L s) (by kernel_rfl) (by kernel_rfl) ti22 rfl ti9 rfl (by omega) (by omega) ?_
      refine Run 1000 ?_
      refine Load 9 (.pointer (some ⟨b, o + (before L s : Int).toNat * 1, none⟩)) (.string L[before L s]) (by kernel_rfl) (by kernel_rfl) (by simpa using hld) ?_
      refine Run 1000 ?_
      refine Fin_cB (seq L[before L s] s) (by kernel_rfl) ?_
      cases hq : seq L[before L s] s with
      | true =>
        have hi1 : insT L s = L := by unfold insT; rw [hx]; simp only [hq, if_true]
        refine Run 1000 ?_
        refine Fin_goto (lpN Tryz.f18 0) hh1 [(0, .string w), (3, .slice (some ⟨b, o, some 1⟩) L.length kk), (4, I (IntKind.wrap .i64 ((i : Int) + 1)))] (by kernel_rfl) (by kernel_rfl) (by kernel_rfl) (fun f' hf' => ?_)
        rw [hw1] at hf'
        exact ih (i + 1) f' hh1 _ (by omega) (by rw [hsucc, hi1]; exact A) hf'
      | false =>
        have hi1 : insT L s = putAt L (before L s) s := by unfold insT; rw [hx]; simp only [hq, Bool.false_eq_true, if_false]
        refine Run 1000 ?_
        refine Slic 27 (.slice (some ⟨b, o, some 1⟩) L.length kk) _ none (some (I (before L s))) none (by kernel_rfl) (by kernel_rfl) e1 ?_
        refine Run 1000 ?_
        refine App 27 27 (.slice none 0 0) (.slice a1 (L.take (before L s)).length k1) v1 h1 (by kernel_rfl) (by kernel_rfl) Tryz.underlying27 (by simp) e2 ?_
        refine Run 1000 ?_
        refine Bld 27 1 [(0, .string s)] (.slice (some ⟨h1.length, 0, some 1⟩) 1 1) (h1 ++ [AObj.row [Value.string s] true]) (by kernel_rfl) (by kernel_rfl) (by simp [abuildSlice, ti22, ti9, zerosOf, afill, splice, isCell, Value.cells, isData]) ?_
        refine Run 1000 ?_
        refine App 27 27 v1 (.slice (some ⟨h1.length, 0, some 1⟩) 1 1) v2 h2 (by kernel_rfl) (by kernel_rfl) Tryz.underlying27 (by simp) e3 ?_
        refine Run 1000 ?_
        refine Slic 27 (.slice (some ⟨b, o, some 1⟩) L.length kk) _ (some (I (before L s))) none none (by kernel_rfl) (by kernel_rfl) e4 ?_
        refine Run 1000 ?_
        refine App 27 27 v2 (.slice a2 (L.drop (before L s)).length k2) v3 h3 (by kernel_rfl) (by kernel_rfl) Tryz.underlying27 (by simp) e5 ?_
        refine Run 1000 ?_
        refine Fin_goto (lpN Tryz.f18 0) h3 [(0, .string w), (3, v3), (4, I (IntKind.wrap .i64 ((i : Int) + 1)))] (by kernel_rfl) (by kernel_rfl) (by kernel_rfl) (fun f' hf' => ?_)
        rw [hw1] at hf'
        exact ih (i + 1) f' h3 _ (by omega) (by rw [hsucc, hi1]; exact A3.trans A.grew) hf'
    · have hx : L[before L s]? = none := List.getElem?_eq_none (by omega)
      have hi1 : insT L s = putAt L (before L s) s := by unfold insT; rw [hx]
      refine Run 1000 ?_
      refine Fin_cB false (by kernel_rfl) ?_
      refine Run 1000 ?_
      refine Slic 27 (.slice a L.length kk) _ none (some (I (before L s))) none (by kernel_rfl) (by kernel_rfl) e1 ?_
      refine Run 1000 ?_
      refine App 27 27 (.slice none 0 0) (.slice a1 (L.take (before L s)).length k1) v1 h1 (by kernel_rfl) (by kernel_rfl) Tryz.underlying27 (by simp) e2 ?_
      refine Run 1000 ?_
      refine Bld 27 1 [(0, .string s)] (.slice (some ⟨h1.length, 0, some 1⟩) 1 1) (h1 ++ [AObj.row [Value.string s] true]) (by kernel_rfl) (by kernel_rfl) (by simp [abuildSlice, ti22, ti9, zerosOf, afill, splice, isCell, Value.cells, isData]) ?_
      refine Run 1000 ?_
      refine App 27 27 v1 (.slice (some ⟨h1.length, 0, some 1⟩) 1 1) v2 h2 (by kernel_rfl) (by kernel_rfl) Tryz.underlying27 (by simp) e3 ?_
      refine Run 1000 ?_
      refine Slic 27 (.slice a L.length kk) _ (some (I (before L s))) none none (by kernel_rfl) (by kernel_rfl) e4 ?_
      refine Run 1000 ?_
      refine App 27 27 v2 (.slice a2 (L.drop (before L s)).length k2) v3 h3 (by kernel_rfl) (by kernel_rfl) Tryz.underlying27 (by simp) e5 ?_
      refine Run 1000 ?_
      refine Fin_goto (lpN Tryz.f18 0) h3 [(0, .string w), (3, v3), (4, I (IntKind.wrap .i64 ((i : Int) + 1)))] (by kernel_rfl) (by kernel_rfl) (by kernel_rfl) (fun f' hf' => ?_)
      rw [hw1] at hf'
      exact ih (i + 1) f' h3 _ (by omega) (by rw [hsucc, hi1]; exact A3.trans A.grew) hf'

theorem rturns_spec {X : Ext} (hX : X 18 = none) (hX2 : X 43 = none) (w : ByteArray) (hw : w.size < 100000) (h : AHeap) :
    Ca Tryz.prog X (.fn 18) [.string w] h (fun v h' => Acc h h' v (rTurnsTo w w.size)) := by
  refine Ca_fn (fn := Tryz.f18) (c := Tryz.f18.body.getD .skip) hX (by kernel_rfl) (by kernel_rfl) (by kernel_rfl) ?_
  refine Run 1000 ?_
  refine Fin_goto (lpN Tryz.f18 0) h [(0, .string w), (3, .slice none 0 0), (4, I (0 : Nat))] (by kernel_rfl) (by kernel_rfl) (by kernel_rfl) (fun f' hf' => ?_)
  exact rt_outer hX2 h w hw w.size 0 f' h _ (by omega) (Acc.nil h) hf'
def rWhole (w : ByteArray) : Bool := decide (((rTurnsTo w w.size).length : Int) = w.size)
theorem rwhole_spec {X : Ext} (hX0 : X 41 = none) (hX : X 18 = none) (hX2 : X 43 = none) (w : ByteArray) (hw : w.size < 100000) (h : AHeap) :
    Ca Tryz.prog X (.fn 41) [.string w] h (fun v h' => v = .bool (rWhole w) ∧ Grew h h') := by
  refine Ca_fn (fn := Tryz.f41) (c := Tryz.f41.body.getD .skip) hX0 (by kernel_rfl) (by kernel_rfl) (by kernel_rfl) ?_
  refine Run 1000 ?_
  refine Fin_call 18 [.string w] (by kernel_rfl) (by kernel_rfl) (rturns_spec hX hX2 w hw h) (fun v1 hh1 A => ?_)
  have G := A.grew
  obtain ⟨a, kk, rfl, _⟩ := A.as_strs
  refine Run 1000 ?_
  refine Fin_r (by kernel_rfl) ⟨Or.inr rfl, .bool (((rTurnsTo w w.size).length : Int) == w.size), by kernel_rfl, ?_, G⟩
  unfold rWhole
  congr 1
end Go.Proofs.YtpbmpdocgplhpaaGreatDoor

/-
  The reference's All: all words of a length.
-/
set_option linter.unusedSimpArgs false
set_option linter.unusedVariables false
set_option maxRecDepth 100000
namespace Go.Proofs.YtpbmpdocgplhpaaGreatDoor
open Go Go.AM

def letterB (c : Nat) : ByteArray := gB [UInt8.ofNat (97 + c)]
def nextW (k : Nat) (w : ByteArray) : List ByteArray := (List.range k).map fun c => w ++ letterB c
def allM (k : Nat) : Nat → List ByteArray
  | 0 => [ByteArray.empty]
  | n + 1 => (allM k n).flatMap (nextW k)
theorem nextW_length (k : Nat) (w : ByteArray) : (nextW k w).length = k := by simp [nextW]
theorem flat_length (k : Nat) : ∀ L : List ByteArray, (L.flatMap (nextW k)).length = L.length * k := by
  intro L
  induction L with
  | nil => simp
  | cons w L ih => rw [List.flatMap_cons, List.length_append, ih, nextW_length, List.length_cons, Nat.succ_mul]; omega

theorem ti87 : ti Tryz.prog 107 = some ⟨.slice 5, 1, 24, .slice none 0 0⟩ := by kernel_rfl
theorem ti5 : ti Tryz.prog 5 = some ⟨.int .u8, 1, 1, .int .u8 0⟩ := by kernel_rfl
theorem letter_conv (h : AHeap) (c : Nat) (hc : c < 100) :
    abytes Tryz.prog (h ++ [AObj.row [.int .u8 (IntKind.wrap .u8 (IntKind.wrap .i64 (97 + (c : Int))))] true]) 107 9 (.slice (some ⟨h.length, 0, some 1⟩) 1 1) = some (.string (letterB c)) := by
  have e1 : IntKind.wrap .u8 (IntKind.wrap .i64 (97 + (c : Int))) = ((97 + c : Nat) : Int) := by
    rw [wrap_small (by omega) (by omega), wrap_u8 (by omega) (by omega)]; omega
  have u87 : Tryz.prog.underlying 107 = some (.slice 5) := by kernel_rfl
  have hl : loadN (h ++ [AObj.row [.int .u8 ((97 + c : Nat) : Int)] true]) h.length 0 1 = some [.int .u8 ((97 + c : Nat) : Int)] := by simp [loadN, cells?]
  rw [e1]
  simp only [abytes, u87, Tryz.underlying9, Tryz.underlying5, hl, bytesL]
  rfl

theorem add_str {P : Program} {t : TypeId} (a b : ByteArray) (h : a.size + b.size ≤ 2 ^ 62) : abin P .add t (.string a) (.string b) = some (.string (a ++ b)) := by
  simp only [abin, astr, lim]; exact if_pos h
section
variable {X : Ext} {Q : AExit → FS → Prop}
theorem all_c (hs : AHeap) (k n i j : Nat) (hk : k ≤ 4) (a : Option Addr) (kk : Nat) (L N : List ByteArray) (hL : L.length < 100000) (hN : N.length < 1000000) (hst : Strs hs a L) (hj : j < L.length) (hw : L[j].size < 1000)
    (K : ∀ f' h' v', Acc hs h' v' (N ++ nextW k L[j]) → Knows f' [(0, I k), (1, I n), (5, .slice a L.length kk), (6, I i), (7, v'), (8, I (j + 1 : Nat))] → Fin Tryz.prog X none Tryz.f40.ntmps (lpN Tryz.f40 1) .normal ⟨f', h'⟩ Q) :
    ∀ (t c : Nat) (f : Nat → Value) (h : AHeap) (v : Value), c + t = k → Acc hs h v (N ++ (List.range c).map fun c => L[j] ++ letterB c) →
    Knows f [(0, I k), (1, I n), (5, .slice a L.length kk), (6, I i), (7, v), (8, I j), (9, I c)] →
    Fin Tryz.prog X none Tryz.f40.ntmps (lpN Tryz.f40 2) .normal ⟨f, h⟩ Q := by
  intro t
  induction t with
  | zero =>
    intro c f h v hc A hf
    obtain rfl : c = k := by omega
    refine Fin_known _ hf ?_
    refine Fin_unrl ?_
    refine Run 1000 ?_
    refine Fin_c ((c : Int) < c) (by kernel_rfl) (fun h1 => by omega) (fun h1 => ?_)
    refine Run 1000 ?_
    refine Fin_goto (lpN Tryz.f40 1) h [(0, I c), (1, I n), (5, .slice a L.length kk), (6, I i), (7, v), (8, I (IntKind.wrap .i64 ((j : Int) + 1)))] (by kernel_rfl) (by kernel_rfl) (by kernel_rfl) (fun f' hf' => ?_)
    rw [wrap_next hj (by omega)] at hf'
    exact K f' h v A hf'
  | succ t ih =>
    intro c f h v hc A hf
    have hlen : (N ++ (List.range c).map fun c => L[j] ++ letterB c).length < 4294967295 := by simp; omega
    obtain ⟨b, o, rfl, hld⟩ := (hst.grow A.grew).at hj
    refine Fin_known _ hf ?_
    refine Fin_unrl ?_
    refine Run 1000 ?_
    refine Fin_c ((c : Int) < k) (by kernel_rfl) (fun h1 => ?_) (fun h1 => by omega)
    refine Run 1000 ?_
    refine Draw (by kernel_rfl) ?_
    refine Run 1000 ?_
    refine IdxA 27 b o 1 L.length kk .i64 j (by kernel_rfl) (by kernel_rfl) ti22 rfl ti9 rfl (by omega) (by omega) ?_
    refine Run 1000 ?_
    refine Load 9 (.pointer (some ⟨b, o + (j : Int).toNat * 1, none⟩)) (.string L[j]) (by kernel_rfl) (by kernel_rfl) (by simpa using hld) ?_
    refine Run 1000 ?_
    refine Bld 107 1 [(0, .int .u8 (IntKind.wrap .u8 (IntKind.wrap .i64 (97 + (c : Int)))))] (.slice (some ⟨h.length, 0, some 1⟩) 1 1) (h ++ [AObj.row [.int .u8 (IntKind.wrap .u8 (IntKind.wrap .i64 (97 + (c : Int))))] true]) (by kernel_rfl) (by kernel_rfl) (by simp [abuildSlice, ti87, ti5, zerosOf, afill, splice, isCell, Value.cells, isData]) ?_
    refine Run 1000 ?_
    refine ConvB 107 9 (.slice (some ⟨h.length, 0, some 1⟩) 1 1) (.string (letterB c)) (by kernel_rfl) (by kernel_rfl) (by simp [aconv, show Tryz.prog.underlying 107 = some (.slice 5) from by kernel_rfl, Tryz.underlying9]) (letter_conv h c (by omega)) ?_
    refine Run 1000 ?_
    refine Bin .add 9 (.string L[j]) (.string (letterB c)) (.string (L[j] ++ letterB c)) (by kernel_rfl) (by kernel_rfl) (add_str _ _ (by simp only [letterB, gB_size, List.length_singleton]; omega)) ?_
    refine Run 1000 ?_
    have A1 := A.more (h' := h ++ [AObj.row [.int .u8 (IntKind.wrap .u8 (IntKind.wrap .i64 (97 + (c : Int))))] true]) ⟨_, rfl⟩
    obtain ⟨v2, h2, e2, A2, _, _⟩ := A1.app (L[j] ++ letterB c) hlen
    refine Bld 27 1 [(0, .string (L[j] ++ letterB c))] (.slice (some ⟨(h ++ [AObj.row [.int .u8 (IntKind.wrap .u8 (IntKind.wrap .i64 (97 + (c : Int))))] true]).length, 0, some 1⟩) 1 1) _ (by kernel_rfl) (by kernel_rfl) (by simp [abuildSlice, ti22, ti9, zerosOf, afill, splice, isCell, Value.cells, isData]; rfl) ?_
    refine Run 1000 ?_
    refine App 27 27 v (.slice (some ⟨(h ++ [AObj.row [.int .u8 (IntKind.wrap .u8 (IntKind.wrap .i64 (97 + (c : Int))))] true]).length, 0, some 1⟩) 1 1) v2 h2 (by kernel_rfl) (by kernel_rfl) Tryz.underlying27 (by simp) (by simpa using e2) ?_
    refine Run 1000 ?_
    refine Fin_goto (lpN Tryz.f40 2) h2 [(0, I k), (1, I n), (5, .slice (some ⟨b, o, some 1⟩) L.length kk), (6, I i), (7, v2), (8, I j), (9, I (IntKind.wrap .i64 ((c : Int) + 1)))] (by kernel_rfl) (by kernel_rfl) (by kernel_rfl) (fun f' hf' => ?_)
    rw [wrap_next (n := k) (by omega) (by omega)] at hf'
    refine ih (c + 1) f' h2 v2 (by omega) ?_ hf'
    rw [List.range_succ, List.map_append, ← List.append_assoc]
    exact A2
theorem all_j (hs : AHeap) (k n i : Nat) (hk : k ≤ 4) (a : Option Addr) (kk : Nat) (L : List ByteArray) (hL : L.length < 100000) (hst : Strs hs a L) (hw : ∀ x ∈ L, x.size < 1000) (hi : i < 1000)
    (K : ∀ f' h' v', Acc hs h' v' (L.flatMap (nextW k)) → Knows f' [(0, I k), (1, I n), (5, v'), (6, I (i + 1 : Nat))] → Fin Tryz.prog X none Tryz.f40.ntmps (lpN Tryz.f40 0) .normal ⟨f', h'⟩ Q) :
    ∀ (t j : Nat) (f : Nat → Value) (h : AHeap) (v : Value), j + t = L.length → Acc hs h v ((L.take j).flatMap (nextW k)) →
    Knows f [(0, I k), (1, I n), (5, .slice a L.length kk), (6, I i), (7, v), (8, I j)] →
    Fin Tryz.prog X none Tryz.f40.ntmps (lpN Tryz.f40 1) .normal ⟨f, h⟩ Q := by
  intro t
  induction t with
  | zero =>
    intro j f h v hj A hf
    obtain rfl : j = L.length := by omega
    rw [List.take_length] at A
    refine Fin_known _ hf ?_
    refine Fin_unrl ?_
    refine Run 1000 ?_
    refine Fin_c ((L.length : Int) < L.length) (by kernel_rfl) (fun h1 => by omega) (fun h1 => ?_)
    refine Run 1000 ?_
    refine Fin_goto (lpN Tryz.f40 0) h [(0, I k), (1, I n), (5, v), (6, I (IntKind.wrap .i64 ((i : Int) + 1)))] (by kernel_rfl) (by kernel_rfl) (by kernel_rfl) (fun f' hf' => ?_)
    rw [wrap_next (n := 1000) hi (by omega)] at hf'
    exact K f' h v A hf'
  | succ t ih =>
    intro j f h v hj A hf
    have hlt : j < L.length := by omega
    refine Fin_known _ hf ?_
    refine Fin_unrl ?_
    refine Run 1000 ?_
    refine Fin_c ((j : Int) < L.length) (by kernel_rfl) (fun h1 => ?_) (fun h1 => by omega)
    refine Run 1000 ?_
    refine Fin_goto (lpN Tryz.f40 2) h [(0, I k), (1, I n), (5, .slice a L.length kk), (6, I i), (7, v), (8, I j), (9, I (0 : Nat))] (by kernel_rfl) (by kernel_rfl) (by kernel_rfl) (fun f' hf' => ?_)
    have hNl : ((L.take j).flatMap (nextW k)).length < 1000000 := by
      rw [flat_length, List.length_take, Nat.min_eq_left (by omega)]
      have : j * k ≤ 100000 * 4 := Nat.mul_le_mul (by omega) hk
      omega
    refine all_c hs k n i j hk a kk L _ hL hNl hst hlt (hw _ (List.getElem_mem hlt)) (fun f2 h2 v2 A2 hf2 => ?_) k 0 f' h v (by omega) (by simpa using A) hf'
    refine ih (j + 1) f2 h2 v2 (by omega) ?_ hf2
    have e : L.take (j + 1) = L.take j ++ [L[j]] := by rw [List.take_add_one, List.getElem?_eq_getElem hlt]; rfl
    rw [e, List.flatMap_append, List.flatMap_cons, List.flatMap_nil, List.append_nil]; exact A2
end
theorem allM_size (k : Nat) : ∀ n, ∀ x ∈ allM k n, x.size = n := by
  intro n
  induction n with
  | zero => intro x hx; simp only [allM, List.mem_singleton] at hx; subst hx; rfl
  | succ n ih =>
    intro x hx
    simp only [allM, List.mem_flatMap, nextW, List.mem_map] at hx
    obtain ⟨w, hw, c, _, rfl⟩ := hx
    rw [ByteArray.size_append, ih w hw]; rfl
theorem allM_length (k : Nat) : ∀ n, (allM k n).length = k ^ n := by
  intro n
  induction n with
  | zero => rfl
  | succ n ih => simp only [allM]; rw [flat_length, ih, Nat.pow_succ]
theorem all_i {X : Ext} (h0 : AHeap) (k n : Nat) (hk : k ≤ 4) (hn : n ≤ 5) (hn1 : 1 ≤ n) :
    ∀ (t i : Nat) (f : Nat → Value) (h : AHeap) (v : Value), i + t = n → (∃ a kk, v = .slice a (allM k i).length kk ∧ Strs h a (allM k i)) → Grew h0 h → (1 ≤ i → Acc h0 h v (allM k i)) → Knows f [(0, I k), (1, I n), (5, v), (6, I i)] →
    Fin Tryz.prog X none Tryz.f40.ntmps (lpN Tryz.f40 0) .normal ⟨f, h⟩ (fun e y => (e = .normal ∨ e = .ret) ∧ ∃ v, fresults Tryz.prog Tryz.f40.results.toList y = some v ∧ Acc h0 y.h v (allM k n)) := by
  intro t
  induction t with
  | zero =>
    intro i f h v hi V G A hf
    obtain rfl : i = n := by omega
    refine Fin_known _ hf ?_
    refine Fin_unrl ?_
    refine Run 1000 ?_
    refine Fin_c ((i : Int) < i) (by kernel_rfl) (fun h1 => by omega) (fun h1 => ?_)
    refine Run 1000 ?_
    exact Fin_r (by kernel_rfl) ⟨Or.inr rfl, v, by kernel_rfl, A hn1⟩
  | succ t ih =>
    intro i f h v hi V G A hf
    obtain ⟨a, kk, rfl, hst⟩ := V
    refine Fin_known _ hf ?_
    refine Fin_unrl ?_
    refine Run 1000 ?_
    refine Fin_c ((i : Int) < n) (by kernel_rfl) (fun h1 => ?_) (fun h1 => by omega)
    refine Run 1000 ?_
    refine Fin_goto (lpN Tryz.f40 1) h [(0, I k), (1, I n), (5, .slice a (allM k i).length kk), (6, I i), (7, .slice none 0 0), (8, I (0 : Nat))] (by kernel_rfl) (by kernel_rfl) (by kernel_rfl) (fun f' hf' => ?_)
    have hl : (allM k i).length < 100000 := by
      rw [allM_length]
      have : k ^ i ≤ 4 ^ i := Nat.pow_le_pow_left hk i
      have : 4 ^ i ≤ 4 ^ 5 := Nat.pow_le_pow_right (by omega) (by omega)
      omega
    refine all_j h k n i hk a kk (allM k i) hl hst (fun x hx => by rw [allM_size k i x hx]; omega) (by omega) (fun f2 h2 v2 A2 hf2 => ?_) (allM k i).length 0 f' h _ (by omega) (by simpa using Acc.nil h) hf'
    exact ih (i + 1) f2 h2 v2 (by omega) A2.as_strs (A2.trans G).grew (fun _ => A2.trans G) hf2
theorem all_spec {X : Ext} (hX : X 40 = none) (k n : Nat) (hk : k ≤ 4) (hn1 : 1 ≤ n) (hn : n ≤ 5) (h : AHeap) :
    Ca Tryz.prog X (.fn 40) [I k, I n] h (fun v h' => Acc h h' v (allM k n)) := by
  refine Ca_fn (fn := Tryz.f40) (c := Tryz.f40.body.getD .skip) hX (by kernel_rfl) (by kernel_rfl) (by kernel_rfl) ?_
  refine Run 1000 ?_
  refine Bld 27 1 [(0, .string ByteArray.empty)] (.slice (some ⟨h.length, 0, some 1⟩) 1 1) (h ++ [AObj.row [Value.string ByteArray.empty] true]) (by kernel_rfl) (by kernel_rfl) (by simp [abuildSlice, ti22, ti9, zerosOf, afill, splice, isCell, Value.cells, isData]) ?_
  refine Run 1000 ?_
  refine Fin_goto (lpN Tryz.f40 0) (h ++ [AObj.row [Value.string ByteArray.empty] true]) [(0, I k), (1, I n), (5, .slice (some ⟨h.length, 0, some 1⟩) 1 1), (6, I (0 : Nat))] (by kernel_rfl) (by kernel_rfl) (by kernel_rfl) (fun f' hf' => ?_)
  refine all_i h k n hk hn hn1 n 0 f' _ _ (by omega) ⟨_, _, rfl, Or.inr ⟨h.length, 0, rfl⟩, fun i hi => ⟨h.length, 0, [Value.string ByteArray.empty], true, rfl, by simp, ?_⟩⟩ ⟨_, rfl⟩ (fun h => by omega) hf'
  obtain rfl : i = 0 := by simp [allM] at hi; omega
  rfl
end Go.Proofs.YtpbmpdocgplhpaaGreatDoor

/-
  The reference's Rings.
-/
set_option linter.unusedSimpArgs false
set_option linter.unusedVariables false
set_option maxRecDepth 100000
namespace Go.Proofs.YtpbmpdocgplhpaaGreatDoor
open Go Go.AM

theorem Strs.load9 {h : AHeap} {a : Option Addr} {L : List ByteArray} (s : Strs h a L) {i : Nat} (hi : i < L.length) {b o off : Nat} (ha : a = some ⟨b, o, some 1⟩) (ho : off = o + i) : aload Tryz.prog h 9 (.pointer (some ⟨b, off, none⟩)) = some (.string L[i]) := by
  obtain ⟨b2, o2, cs, own, e, hb, hc⟩ := s.2 i hi
  rw [ha] at e
  simp only [Option.some.injEq, Addr.mk.injEq, and_true] at e
  obtain ⟨rfl, rfl⟩ := e
  subst ho
  exact load_row ti9 rfl hb hc
def rRingOK (w : ByteArray) : Bool := rWhole w && seq ((rTurnsTo w w.size).getD 0 ByteArray.empty) w
structure RefX (X : Ext) : Prop where
  x19 : X 14 = none
  x38 : X 18 = none
  x39 : X 41 = none
  x51 : X 40 = none
  x65 : X 43 = none

set_option maxHeartbeats 1000000 in
theorem rr_loop {X : Ext} (x : RefX X) (k n : Nat) (h1 : AHeap) (a : Option Addr) (kk : Nat) (L : List ByteArray) (hs : Strs h1 a L) (hL : L.length < 100000) (hw : ∀ w ∈ L, 1 ≤ w.size ∧ w.size < 1000) :
    ∀ (t i : Nat) (f : Nat → Value) (h : AHeap) (v : Value), i + t = L.length → Acc h1 h v ((L.take i).filter rRingOK) → Knows f [(5, .slice a L.length kk), (6, v), (7, I i)] →
    Fin Tryz.prog X none Tryz.f14.ntmps (lpN Tryz.f14 0) .normal ⟨f, h⟩ (fun e y => (e = .normal ∨ e = .ret) ∧ ∃ v, fresults Tryz.prog Tryz.f14.results.toList y = some v ∧ Acc h1 y.h v (L.filter rRingOK)) := by
  intro t
  induction t with
  | zero =>
    intro i f h v hi A hf
    obtain rfl : i = L.length := by omega
    rw [List.take_length] at A
    refine Fin_known _ hf ?_
    refine Fin_unrl ?_
    refine Run 1000 ?_
    refine Fin_c ((L.length : Int) < L.length) (by kernel_rfl) (fun h1 => by omega) (fun h1 => ?_)
    refine Run 1000 ?_
    exact Fin_r (by kernel_rfl) ⟨Or.inr rfl, v, by kernel_rfl, A⟩
  | succ t ih =>
    intro i f h v hi A hf
    have hlt : i < L.length := by omega
    obtain ⟨b, o, rfl, _⟩ := hs.at hlt
    obtain ⟨w, ew⟩ : ∃ w, w = L[i] := ⟨_, rfl⟩
    obtain ⟨w1, w2⟩ := hw L[i] (List.getElem_mem hlt)
    rw [← ew] at w1 w2
    have hnext : IntKind.wrap .i64 ((i : Int) + 1) = ((i + 1 : Nat) : Int) := wrap_next (n := L.length) hlt (by omega)
    have htake : L.take (i + 1) = L.take i ++ [w] := by rw [List.take_add_one, List.getElem?_eq_getElem hlt, ew]; rfl
    have hld : ∀ {g : AHeap}, Grew h1 g → aload Tryz.prog g 9 (.pointer (some ⟨b, o + (i : Int).toNat * 1, none⟩)) = some (.string w) := by
      intro g hg; rw [ew]; exact (hs.grow hg).load9 hlt rfl (by simp)
    refine Fin_known _ hf ?_
    refine Fin_unrl ?_
    refine Run 1000 ?_
    refine Fin_c ((i : Int) < L.length) (by kernel_rfl) (fun h1 => ?_) (fun h1 => by omega)
    refine Run 1000 ?_
    refine DrawG (regN Tryz.f14 6) (by kernel_rfl) ?_
    refine DRun 1000 (by kernel_rfl) ?_
    refine DIdxA 27 b o 1 L.length kk .i64 i (by kernel_rfl) (by kernel_rfl) ti22 rfl ti9 rfl (by omega) (by omega) ?_
    refine DRun 1000 (by kernel_rfl) ?_
    refine DLoad 9 (.pointer (some ⟨b, o + (i : Int).toNat * 1, none⟩)) (.string w) [] (by kernel_rfl) (by kernel_rfl) (by kernel_rfl) (hld A.grew) (by simp) ?_
    refine DRun 1000 (by kernel_rfl) ?_
    refine DCall 41 [.string w] [] (by kernel_rfl) (by kernel_rfl) (by kernel_rfl) (rwhole_spec x.x39 x.x38 x.x65 w (by omega) h) (fun v6 hh6 hv6 => ⟨by simp, ?_⟩)
    obtain ⟨rfl, G6⟩ := hv6
    cases hW : rWhole w with
    | false =>
      have hno : rRingOK w = false := by simp [rRingOK, hW]
      refine DRun 1000 (by kernel_rfl) ?_
      refine FinD_end (by kernel_rfl) ?_
      refine Run 1000 ?_
      refine Fin_cB false (by kernel_rfl) ?_
      refine Run 1000 ?_
      refine Fin_goto (lpN Tryz.f14 0) hh6 [(5, .slice (some ⟨b, o, some 1⟩) L.length kk), (6, v), (7, I (IntKind.wrap .i64 ((i : Int) + 1)))] (by kernel_rfl) (by kernel_rfl) (by kernel_rfl) (fun f' hf' => ?_)
      rw [hnext] at hf'
      refine ih (i + 1) f' hh6 v (by omega) ?_ hf'
      rw [htake, List.filter_append]
      simpa [hno] using A.more G6
    | true =>
      have hT : 0 < (rTurnsTo w w.size).length := by
        have h2 := hW
        unfold rWhole at h2
        simp only [decide_eq_true_eq] at h2
        omega
      refine DRun 1000 (by kernel_rfl) ?_
      refine DIdxA 27 b o 1 L.length kk .i64 i (by kernel_rfl) (by kernel_rfl) ti22 rfl ti9 rfl (by omega) (by omega) ?_
      refine DRun 1000 (by kernel_rfl) ?_
      refine DLoad 9 (.pointer (some ⟨b, o + (i : Int).toNat * 1, none⟩)) (.string w) [] (by kernel_rfl) (by kernel_rfl) (by kernel_rfl) (hld (A.grew.trans G6)) (by simp) ?_
      refine DRun 1000 (by kernel_rfl) ?_
      refine DCall 18 [.string w] [] (by kernel_rfl) (by kernel_rfl) (by kernel_rfl) (rturns_spec x.x38 x.x65 w (by omega) hh6) (fun v7 hh7 A7 => ⟨by simp, ?_⟩)
      have G7 := G6.trans A7.grew
      obtain ⟨b7, hb7, rfl, hr7⟩ := A7.row hT
      obtain ⟨u, eu⟩ : ∃ u, (rTurnsTo w w.size)[0]? = some u := ⟨_, List.getElem?_eq_getElem hT⟩
      have eu2 : (rTurnsTo w w.size).getD 0 ByteArray.empty = u := by rw [List.getD_eq_getElem?_getD, eu]; rfl
      refine DRun 1000 (by kernel_rfl) ?_
      refine DIdxA 27 b7 0 1 (rTurnsTo w w.size).length ((rTurnsTo w w.size).length + 1) .i64 0 (by kernel_rfl) (by kernel_rfl) ti22 rfl ti9 rfl (by omega) (by omega) ?_
      refine DRun 1000 (by kernel_rfl) ?_
      refine DLoad 9 (.pointer (some ⟨b7, 0 + (0 : Int).toNat * 1, none⟩)) (.string u) [] (by kernel_rfl) (by kernel_rfl) (by kernel_rfl) (load_str hr7 (by simp) eu) (by simp) ?_
      refine DRun 1000 (by kernel_rfl) ?_
      refine DIdxA 27 b o 1 L.length kk .i64 i (by kernel_rfl) (by kernel_rfl) ti22 rfl ti9 rfl (by omega) (by omega) ?_
      refine DRun 1000 (by kernel_rfl) ?_
      refine DLoad 9 (.pointer (some ⟨b, o + (i : Int).toNat * 1, none⟩)) (.string w) [hh6] (by kernel_rfl) (by kernel_rfl) (by kernel_rfl) (hld (A.grew.trans G7)) (by intro g hg; rw [List.mem_singleton] at hg; subst hg; exact hld (A.grew.trans G6)) ?_
      refine DRun 1000 (by kernel_rfl) ?_
      refine FinD_end (by kernel_rfl) ?_
      refine Run 1000 ?_
      refine Fin_c2 (seq u w) (by kernel_rfl) (fun hE => ?_) (fun hE => ?_)
      rotate_left
      · --
        have hno : rRingOK w = false := by unfold rRingOK; rw [hW, eu2, hE]; rfl
        refine Run 1000 ?_
        refine Fin_goto (lpN Tryz.f14 0) hh7 [(5, .slice (some ⟨b, o, some 1⟩) L.length kk), (6, v), (7, I (IntKind.wrap .i64 ((i : Int) + 1)))] (by kernel_rfl) (by kernel_rfl) (by kernel_rfl) (fun f' hf' => ?_)
        rw [hnext] at hf'
        refine ih (i + 1) f' hh7 v (by omega) ?_ hf'
        rw [htake, List.filter_append]
        simpa [hno] using A.more G7
      · --
        have hok : rRingOK w = true := by unfold rRingOK; rw [hW, eu2, hE]; rfl
        have A8 := A.more G7
        obtain ⟨v9, h9, e9, A9, _, _⟩ := A8.app w (by have : ((L.take i).filter rRingOK).length ≤ (L.take i).length := List.length_filter_le _ _
                                                      simp at this; omega)
        refine Run 1000 ?_
        refine IdxA 27 b o 1 L.length kk .i64 i (by kernel_rfl) (by kernel_rfl) ti22 rfl ti9 rfl (by omega) (by omega) ?_
        refine Run 1000 ?_
        refine Load 9 (.pointer (some ⟨b, o + (i : Int).toNat * 1, none⟩)) (.string w) (by kernel_rfl) (by kernel_rfl) (hld (A.grew.trans G7)) ?_
        refine Run 1000 ?_
        refine Bld 27 1 [(0, .string w)] (.slice (some ⟨hh7.length, 0, some 1⟩) 1 1) (hh7 ++ [AObj.row [Value.string w] true]) (by kernel_rfl) (by kernel_rfl) (by simp [abuildSlice, ti22, ti9, zerosOf, afill, splice, isCell, Value.cells, isData]) ?_
        refine Run 1000 ?_
        refine App 27 27 v (.slice (some ⟨hh7.length, 0, some 1⟩) 1 1) v9 h9 (by kernel_rfl) (by kernel_rfl) Tryz.underlying27 (by simp) e9 ?_
        refine Run 1000 ?_
        refine Fin_goto (lpN Tryz.f14 0) h9 [(5, .slice (some ⟨b, o, some 1⟩) L.length kk), (6, v9), (7, I (IntKind.wrap .i64 ((i : Int) + 1)))] (by kernel_rfl) (by kernel_rfl) (by kernel_rfl) (fun f' hf' => ?_)
        rw [hnext] at hf'
        refine ih (i + 1) f' h9 v9 (by omega) ?_ hf'
        rw [htake, List.filter_append]
        simpa [hok] using A9
theorem rrings_spec {X : Ext} (x : RefX X) (k n : Nat) (hk : k ≤ 4) (hn1 : 1 ≤ n) (hn : n ≤ 5) (h : AHeap) :
    Ca Tryz.prog X (.fn 14) [I k, I n] h (fun v h' => Acc h h' v ((allM k n).filter rRingOK)) := by
  refine Ca_fn (fn := Tryz.f14) (c := Tryz.f14.body.getD .skip) x.x19 (by kernel_rfl) (by kernel_rfl) (by kernel_rfl) ?_
  refine Run 1000 ?_
  refine Fin_call 40 [I k, I n] (by kernel_rfl) (by kernel_rfl) (all_spec x.x51 k n hk hn1 hn h) (fun v1 hh1 A => ?_)
  obtain ⟨a, kk, rfl, hs⟩ := A.as_strs
  refine Run 1000 ?_
  refine Fin_goto (lpN Tryz.f14 0) hh1 [(5, .slice a (allM k n).length kk), (6, .slice none 0 0), (7, I (0 : Nat))] (by kernel_rfl) (by kernel_rfl) (by kernel_rfl) (fun f' hf' => ?_)
  have hl : (allM k n).length < 100000 := by
    rw [allM_length]
    have : k ^ n ≤ 4 ^ n := Nat.pow_le_pow_left hk n
    have : 4 ^ n ≤ 4 ^ 5 := Nat.pow_le_pow_right (by omega) (by omega)
    omega
  refine (rr_loop x k n hh1 a kk (allM k n) hs hl (fun w hw => by rw [allM_size k n w hw]; omega) (allM k n).length 0 f' hh1 _ (by omega) (by simpa using Acc.nil hh1) hf').imp fun e y ⟨he, v, hv, A2⟩ => ⟨he, v, hv, A2.trans A.grew⟩
end Go.Proofs.YtpbmpdocgplhpaaGreatDoor
