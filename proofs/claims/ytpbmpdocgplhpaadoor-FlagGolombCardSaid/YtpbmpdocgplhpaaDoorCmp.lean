/-
  slices.Compact of strings; sorted.
-/
import Derived.Test.YtpbmpdocgplhpaaDoorSrt2
set_option linter.unusedSimpArgs false
set_option linter.unusedVariables false
set_option maxRecDepth 100000
namespace Go.Proofs.YtpbmpdocgplhpaaDoor
open Go Go.AM

theorem zeros_str : ∀ n : Nat, zerosOf [Value.string .empty] n = strs (List.replicate n ByteArray.empty) := by
  intro n
  induction n with
  | zero => rfl
  | succ n ih => simp only [zerosOf, ih, strs, List.replicate_succ, List.map_cons]; rfl
theorem strs_cell (L : List ByteArray) : (strs L).all isCell = true := by simp [strs, isCell]
theorem clear_str {h0 : AHeap} {b k kk : Nat} {L : List ByteArray} (hb : b < h0.length) (hk : k ≤ L.length) :
    ∃ L', aclear Tryd.prog (h0.set b (.row (strs L) true)) 22 (.slice (some ⟨b, 0 + k * 1, some 1⟩) (L.length - k) kk) = some (h0.set b (.row (strs L') true)) ∧ L'.length = L.length ∧ L'.take k = L.take k := by
  by_cases h : L.length - k = 0
  · exact ⟨L, by simp only [aclear, Tryd.underlying22, ti9, h, if_true], rfl, rfl⟩
  · refine ⟨L.take k ++ List.replicate (L.length - k) ByteArray.empty, ?_, by simp; omega, ?_⟩
    · have hg : (h0.set b (.row (strs L) true))[b]? = some (.row (strs L) true) := by simp [hb]
      have hz : zerosOf (Value.string ByteArray.empty).cells.toList (L.length - k) = strs (List.replicate (L.length - k) ByteArray.empty) := zeros_str _
      simp only [aclear, Tryd.underlying22, ti9, h, if_false]
      rw [if_pos (by simp), hz]
      simp only [storeN, hg, strs_cell, strs_length, List.length_replicate, Bool.and_true]
      rw [if_pos (by simp; omega), List.set_set]
      congr 3
      simp only [splice, strs_length, List.length_replicate]
      rw [List.drop_of_length_le (by rw [strs_length]; omega)]
      simp [strs]
    · rw [List.take_append_of_le_length (by simp; omega)]; simp [List.take_take]
theorem slice_str (b N kk k : Nat) (hk : k ≤ N) : aslice Tryd.prog 22 (.slice (some ⟨b, 0, some 1⟩) N kk) (some (I k)) none none = some (.slice (some ⟨b, 0 + k * 1, some 1⟩) (N - k) (if kk = N ∧ N = N then N - k else N - k + 1)) := by
  simp only [aslice, ti22, ti9, abound, asIdx]
  rw [if_pos ⟨by omega, by omega⟩]
  simp
theorem slice_stl (b N kk k : Nat) (hk : k ≤ N) : aslice Tryd.prog 22 (.slice (some ⟨b, 0, some 1⟩) N kk) none (some (I k)) none = some (.slice (some ⟨b, 0, some 1⟩) k (if kk = N ∧ k = N then k else k + 1)) := by
  simp only [aslice, ti22, ti9, abound, asIdx]
  rw [if_pos ⟨by omega, by omega⟩]
  simp

/-- How Compact's loops end. -/
def CompQ (h0 : AHeap) (b N : Nat) (R : List ByteArray) (e : AExit) (y : FS) : Prop :=
  (e = .normal ∨ e = .ret) ∧ ∃ v, fresults Tryd.prog Tryd.f79.results.toList y = some v ∧ ∃ L' kk', v = .slice (some ⟨b, 0, some 1⟩) R.length kk' ∧ y.h = h0.set b (.row (strs L') true) ∧ L'.take R.length = R ∧ L'.length = N

theorem comp_inner {X : Ext} (h0 : AHeap) (b kk kk2 N k0 : Nat) (hb : b < h0.length) (hN : N < 1000000) :
    ∀ (t k j : Nat) (f : Nat → Value) (L : List ByteArray), j + t = N → k0 < j → k < j → L.length = N →
    Knows f [(0, .slice (some ⟨b, 0, some 1⟩) N kk), (3, I k), (4, .slice (some ⟨b, 0 + k0 * 1, some 1⟩) (N - k0) kk2), (5, I (j - k0 : Nat))] →
    Fin Tryd.prog X none Tryd.f79.ntmps (lpN Tryd.f79 1) .normal ⟨f, h0.set b (.row (strs L) true)⟩ (CompQ h0 b N ((compIn seq t k j L).2.take (compIn seq t k j L).1)) := by
  have hset : ∀ r, (h0.set b r)[b]? = some r := by intro r; simp [hb]
  intro t
  induction t with
  | zero =>
    intro k j f L ht h1 h2 hL hf
    refine Fin_known _ hf ?_
    refine Fin_unrl ?_
    refine Run 1000 ?_
    refine Fin_c (((j - k0 : Nat) : Int) < (N - k0 : Nat)) (by kernel_rfl) (fun h1 => by omega) (fun h1 => ?_)
    refine Run 1000 ?_
    refine Slic 22 (.slice (some ⟨b, 0, some 1⟩) N kk) _ (some (I k)) none none (by kernel_rfl) (by kernel_rfl) (slice_str b N kk k (by omega)) ?_
    refine Run 1000 ?_
    obtain ⟨L', hc, hl, ht'⟩ := clear_str (h0 := h0) (b := b) (k := k) (kk := if kk = N ∧ N = N then N - k else N - k + 1) (L := L) hb (by omega)
    rw [hL] at hc hl
    refine Clr 22 (.slice (some ⟨b, 0 + k * 1, some 1⟩) (N - k) (if kk = N ∧ N = N then N - k else N - k + 1)) _ (by kernel_rfl) (by kernel_rfl) hc ?_
    refine Run 1000 ?_
    refine Slic 22 (.slice (some ⟨b, 0, some 1⟩) N kk) _ none (some (I k)) none (by kernel_rfl) (by kernel_rfl) (slice_stl b N kk k (by omega)) ?_
    refine Run 1000 ?_
    refine Fin_r (by kernel_rfl) ⟨Or.inr rfl, .slice (some ⟨b, 0, some 1⟩) k (if kk = N ∧ k = N then k else k + 1), by kernel_rfl, L', (if kk = N ∧ k = N then k else k + 1), ?_, rfl, ?_, hl⟩
    · simp only [compIn, List.length_take, hL, Nat.min_eq_left (by omega : k ≤ N)]
    · simp only [compIn, List.length_take, hL, Nat.min_eq_left (by omega : k ≤ N)]; exact ht'
  | succ t ih =>
    intro k j f L ht h1 h2 hL hf
    obtain ⟨a, ha⟩ : ∃ a, L[j]? = some a := ⟨L[j]'(by omega), List.getElem?_eq_getElem _⟩
    obtain ⟨c, hc⟩ : ∃ c, L[j - 1]? = some c := ⟨L[j - 1]'(by omega), List.getElem?_eq_getElem _⟩
    have hw : IntKind.wrap .i64 (((j - k0 : Nat) : Int) - 1) = ((j - k0 - 1 : Nat) : Int) := wrap_pred (by omega) (by omega)
    have hw1 : IntKind.wrap .i64 (((j - k0 : Nat) : Int) + 1) = ((j + 1 - k0 : Nat) : Int) := by rw [wrap_next (n := N) (by omega) (by omega)]; congr 1; omega
    have hw2 : IntKind.wrap .i64 ((k : Int) + 1) = ((k + 1 : Nat) : Int) := wrap_next (n := N) (by omega) (by omega)
    refine Fin_known _ hf ?_
    refine Fin_unrl ?_
    refine Run 1000 ?_
    refine Fin_c (((j - k0 : Nat) : Int) < (N - k0 : Nat)) (by kernel_rfl) (fun h1 => ?_) (fun h1 => by omega)
    refine Run 1000 ?_
    refine Draw (by kernel_rfl) ?_
    refine Run 1000 ?_
    refine IdxA 22 b (0 + k0 * 1) 1 (N - k0) kk2 .i64 (j - k0 : Nat) (by kernel_rfl) (by kernel_rfl) ti22 rfl ti9 rfl (by omega) (by omega) ?_
    refine Run 1000 ?_
    refine Load 9 (.pointer (some ⟨b, 0 + k0 * 1 + ((j - k0 : Nat) : Int).toNat * 1, none⟩)) (.string a) (by kernel_rfl) (by kernel_rfl) (load_str (hset _) (by simp; omega) ha) ?_
    refine Run 1000 ?_
    refine IdxA 22 b (0 + k0 * 1) 1 (N - k0) kk2 .i64 (IntKind.wrap .i64 (((j - k0 : Nat) : Int) - 1)) (by kernel_rfl) (by kernel_rfl) ti22 rfl ti9 rfl (by omega) (by omega) ?_
    refine Run 1000 ?_
    refine Load 9 (.pointer (some ⟨b, 0 + k0 * 1 + (IntKind.wrap .i64 (((j - k0 : Nat) : Int) - 1)).toNat * 1, none⟩)) (.string c) (by kernel_rfl) (by kernel_rfl) (load_str (hset _) (by rw [hw]; simp; omega) hc) ?_
    refine Run 1000 ?_
    refine Fin_cB (!(seq a c)) (by kernel_rfl) ?_
    cases hq : seq a c with
    | false =>
      refine Run 1000 ?_
      refine IdxA 22 b (0 + k0 * 1) 1 (N - k0) kk2 .i64 (j - k0 : Nat) (by kernel_rfl) (by kernel_rfl) ti22 rfl ti9 rfl (by omega) (by omega) ?_
      refine Run 1000 ?_
      refine Load 9 (.pointer (some ⟨b, 0 + k0 * 1 + ((j - k0 : Nat) : Int).toNat * 1, none⟩)) (.string a) (by kernel_rfl) (by kernel_rfl) (load_str (hset _) (by simp; omega) ha) ?_
      refine Run 1000 ?_
      refine IdxA 22 b 0 1 N kk .i64 k (by kernel_rfl) (by kernel_rfl) ti22 rfl ti9 rfl (by omega) (by omega) ?_
      refine Run 1000 ?_
      refine Store 9 (.pointer (some ⟨b, 0 + (k : Int).toNat * 1, none⟩)) (.string a) (h0.set b (.row (strs (L.set k a)) true)) (by kernel_rfl) (by kernel_rfl) (store_str hb (by simp) (by omega)) ?_
      refine Run 1000 ?_
      refine Fin_goto (lpN Tryd.f79 1) (h0.set b (.row (strs (L.set k a)) true)) [(0, .slice (some ⟨b, 0, some 1⟩) N kk), (3, I (IntKind.wrap .i64 ((k : Int) + 1))), (4, .slice (some ⟨b, 0 + k0 * 1, some 1⟩) (N - k0) kk2), (5, I (IntKind.wrap .i64 (((j - k0 : Nat) : Int) + 1)))] (by kernel_rfl) (by kernel_rfl) (by kernel_rfl) (fun f' hf' => ?_)
      rw [hw1, hw2] at hf'
      have := ih (k + 1) (j + 1) f' (L.set k a) (by omega) (by omega) (by omega) (by simpa using hL) hf'
      simpa only [compIn, ha, hc, hq, Bool.false_eq_true, if_false] using this
    | true =>
      refine Run 1000 ?_
      refine Fin_goto (lpN Tryd.f79 1) (h0.set b (.row (strs L) true)) [(0, .slice (some ⟨b, 0, some 1⟩) N kk), (3, I k), (4, .slice (some ⟨b, 0 + k0 * 1, some 1⟩) (N - k0) kk2), (5, I (IntKind.wrap .i64 (((j - k0 : Nat) : Int) + 1)))] (by kernel_rfl) (by kernel_rfl) (by kernel_rfl) (fun f' hf' => ?_)
      rw [hw1] at hf'
      have := ih k (j + 1) f' L (by omega) (by omega) (by omega) hL hf'
      simpa only [compIn, ha, hc, hq, if_true] using this

theorem comp_outer {X : Ext} (h0 : AHeap) (b kk N : Nat) (hb : b < h0.length) (hN : N < 1000000) (L : List ByteArray) (hL : L.length = N) :
    ∀ (t k : Nat) (f : Nat → Value), k + t = N → 1 ≤ k → Knows f [(0, .slice (some ⟨b, 0, some 1⟩) N kk), (3, I k)] →
    Fin Tryd.prog X none Tryd.f79.ntmps (lpN Tryd.f79 0) .normal ⟨f, h0.set b (.row (strs L) true)⟩ (CompQ h0 b N (compOut seq t k L)) := by
  have hset : ∀ r, (h0.set b r)[b]? = some r := by intro r; simp [hb]
  intro t
  induction t with
  | zero =>
    intro k f ht h1 hf
    refine Fin_known _ hf ?_
    refine Fin_unrl ?_
    refine Run 1000 ?_
    refine Fin_c ((k : Int) < N) (by kernel_rfl) (fun h1 => by omega) (fun h1 => ?_)
    refine Run 1000 ?_
    refine Fin_r (by kernel_rfl) ⟨Or.inr rfl, .slice (some ⟨b, 0, some 1⟩) N kk, by kernel_rfl, L, kk, ?_, rfl, ?_, hL⟩
    · simp only [compOut, hL]
    · simp only [compOut]; exact List.take_length
  | succ t ih =>
    intro k f ht h1 hf
    obtain ⟨a, ha⟩ : ∃ a, L[k]? = some a := ⟨L[k]'(by omega), List.getElem?_eq_getElem _⟩
    obtain ⟨c, hc⟩ : ∃ c, L[k - 1]? = some c := ⟨L[k - 1]'(by omega), List.getElem?_eq_getElem _⟩
    have hw : IntKind.wrap .i64 ((k : Int) - 1) = ((k - 1 : Nat) : Int) := wrap_pred (by omega) (by omega)
    have hw2 : IntKind.wrap .i64 ((k : Int) + 1) = ((k + 1 : Nat) : Int) := wrap_next (n := N) (by omega) (by omega)
    refine Fin_known _ hf ?_
    refine Fin_unrl ?_
    refine Run 1000 ?_
    refine Fin_c ((k : Int) < N) (by kernel_rfl) (fun h1 => ?_) (fun h1 => by omega)
    refine Run 1000 ?_
    refine Draw (by kernel_rfl) ?_
    refine Run 1000 ?_
    refine IdxA 22 b 0 1 N kk .i64 k (by kernel_rfl) (by kernel_rfl) ti22 rfl ti9 rfl (by omega) (by omega) ?_
    refine Run 1000 ?_
    refine Load 9 (.pointer (some ⟨b, 0 + (k : Int).toNat * 1, none⟩)) (.string a) (by kernel_rfl) (by kernel_rfl) (load_str (hset _) (by simp) ha) ?_
    refine Run 1000 ?_
    refine IdxA 22 b 0 1 N kk .i64 (IntKind.wrap .i64 ((k : Int) - 1)) (by kernel_rfl) (by kernel_rfl) ti22 rfl ti9 rfl (by omega) (by omega) ?_
    refine Run 1000 ?_
    refine Load 9 (.pointer (some ⟨b, 0 + (IntKind.wrap .i64 ((k : Int) - 1)).toNat * 1, none⟩)) (.string c) (by kernel_rfl) (by kernel_rfl) (load_str (hset _) (by rw [hw]; simp) hc) ?_
    refine Run 1000 ?_
    refine Fin_cB (seq a c) (by kernel_rfl) ?_
    cases hq : seq a c with
    | true =>
      refine Run 1000 ?_
      refine Slic 22 (.slice (some ⟨b, 0, some 1⟩) N kk) _ (some (I k)) none none (by kernel_rfl) (by kernel_rfl) (slice_str b N kk k (by omega)) ?_
      refine Run 1000 ?_
      refine Fin_goto (lpN Tryd.f79 1) (h0.set b (.row (strs L) true)) [(0, .slice (some ⟨b, 0, some 1⟩) N kk), (3, I k), (4, .slice (some ⟨b, 0 + k * 1, some 1⟩) (N - k) (if kk = N ∧ N = N then N - k else N - k + 1)), (5, I ((1 : Nat) : Int))] (by kernel_rfl) (by kernel_rfl) (by kernel_rfl) (fun f' hf' => ?_)
      rw [show ((1 : Nat) : Int) = ((k + 1 - k : Nat) : Int) by omega] at hf'
      have := comp_inner (X := X) h0 b kk (if kk = N ∧ N = N then N - k else N - k + 1) N k hb hN t k (k + 1) f' L (by omega) (by omega) (by omega) hL hf'
      have ht' : N - k - 1 = t := by omega
      simpa only [compOut, ha, hc, hq, if_true, hL, ht'] using this
    | false =>
      refine Run 1000 ?_
      refine Fin_goto (lpN Tryd.f79 0) (h0.set b (.row (strs L) true)) [(0, .slice (some ⟨b, 0, some 1⟩) N kk), (3, I (IntKind.wrap .i64 ((k : Int) + 1)))] (by kernel_rfl) (by kernel_rfl) (by kernel_rfl) (fun f' hf' => ?_)
      rw [hw2] at hf'
      have := ih (k + 1) f' (by omega) (by omega) hf'
      simpa only [compOut, ha, hc, hq, Bool.false_eq_true, if_false] using this

theorem set_same {h : AHeap} {b : Nat} {o : AObj} (hb : h[b]? = some o) : h = h.set b o := by
  have hlt : b < h.length := lt_of_get hb
  apply List.ext_getElem?
  intro j
  by_cases e : b = j
  · subst e; rw [List.getElem?_set_self hlt, hb]
  · rw [List.getElem?_set_ne e]
theorem compact_spec {X : Ext} (hX : X 79 = none) (h : AHeap) (b kk : Nat) (L : List ByteArray) (hb : h[b]? = some (.row (strs L) true)) (hN : L.length < 1000000) :
    Ca Tryd.prog X (.fn 79) [.slice (some ⟨b, 0, some 1⟩) L.length kk] h (fun v h' => ∃ L' kk', v = .slice (some ⟨b, 0, some 1⟩) (compactM seq L).length kk' ∧ h' = h.set b (.row (strs L') true) ∧ L'.take (compactM seq L).length = compactM seq L ∧ L'.length = L.length) := by
  refine Ca_fn (fn := Tryd.f79) (c := Tryd.f79.body.getD .skip) hX (by kernel_rfl) (by kernel_rfl) (by kernel_rfl) ?_
  have hlt : b < h.length := lt_of_get hb
  have hh := set_same hb
  refine Run 1000 ?_
  refine Fin_c ((L.length : Int) < 2) (by kernel_rfl) (fun h1 => ?_) (fun h1 => ?_)
  · refine Run 1000 ?_
    have hc : compactM seq L = L := by
      match L, h1 with
      | [], _ => rfl
      | [a], _ => rfl
      | a :: b :: l, h1 => simp at h1; omega
    refine Fin_r (by kernel_rfl) ⟨Or.inr rfl, .slice (some ⟨b, 0, some 1⟩) L.length kk, by kernel_rfl, L, kk, ?_, hh, ?_, rfl⟩
    · rw [hc]
    · rw [hc]; exact List.take_length
  · refine Run 1000 ?_
    refine Fin_goto (lpN Tryd.f79 0) h [(0, .slice (some ⟨b, 0, some 1⟩) L.length kk), (3, I (1 : Nat))] (by kernel_rfl) (by kernel_rfl) (by kernel_rfl) (fun f' hf' => ?_)
    have := comp_outer (X := X) h b kk L.length hlt hN L rfl (L.length - 1) 1 f' (by omega) (Nat.le_refl 1) hf'
    rw [← hh] at this
    exact this

/-- 'sorted' of up to twelve strings in a row of their own. -/
theorem sorted_small {X : Ext} (x : SortX X) (h : AHeap) (b kk : Nat) (L : List ByteArray) (hb : h[b]? = some (.row (strs L) true)) (hN : L.length ≤ 12) :
    Ca Tryd.prog X (.fn 64) [.slice (some ⟨b, 0, some 1⟩) L.length kk] h (fun v h' => ∃ L' kk', v = .slice (some ⟨b, 0, some 1⟩) (sortedF L).length kk' ∧ h' = h.set b (.row (strs L') true) ∧ L'.take (sortedF L).length = sortedF L ∧ L'.length = L.length) := by
  have hlt : b < h.length := lt_of_get hb
  refine Ca_fn (fn := Tryd.f64) (c := Tryd.f64.body.getD .skip) x.x64 (by kernel_rfl) (by kernel_rfl) (by kernel_rfl) ?_
  refine Run 1000 ?_
  refine Fin_call 78 [.slice (some ⟨b, 0, some 1⟩) L.length kk] (by kernel_rfl) (by kernel_rfl) (sort_small x h b kk L hb hN) (fun v1 hh1 hv1 => ?_)
  subst hv1
  refine Run 1000 ?_
  have hl := sortM_length ltS L
  have hc := compact_spec x.x79 (h.set b (.row (strs (sortM ltS L)) true)) b kk (sortM ltS L) (by simp [hlt]) (by omega)
  rw [hl] at hc
  refine Fin_call 79 [.slice (some ⟨b, 0, some 1⟩) L.length kk] (by kernel_rfl) (by kernel_rfl) hc (fun v2 hh2 hv2 => ?_)
  obtain ⟨L', kk', rfl, rfl, h3, h4⟩ := hv2
  refine Run 1000 ?_
  refine Fin_r (by kernel_rfl) ⟨Or.inr rfl, .slice (some ⟨b, 0, some 1⟩) (sortedF L).length kk', by kernel_rfl, L', kk', rfl, ?_, h3, h4⟩
  rw [List.set_set]
end Go.Proofs.YtpbmpdocgplhpaaDoor
