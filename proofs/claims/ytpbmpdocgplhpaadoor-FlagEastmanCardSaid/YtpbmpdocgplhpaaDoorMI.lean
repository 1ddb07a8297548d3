/-
  MERGED BY PROGRAM out of the texts Strm AccI Rd Rd2.
-/
import Derived.Test.YtpbmpdocgplhpaaDoorMH
import Derived.Test.YtpbmpdocgplhpaaDoorMF
import Derived.Test.YtpbmpdocgplhpaaDoorMD

/-
  flag.hasRune, openStream and pieces.
-/
set_option linter.unusedSimpArgs false
set_option linter.unusedVariables false
set_option maxRecDepth 100000
namespace Go.Proofs.YtpbmpdocgplhpaaDoor
open Go Go.AM

theorem rune_loop {X : Ext} (k : Nat) (hk : k ≤ 4) (h0 : AHeap) (c q : Nat) (hq : h0.length ≤ q) :
    ∀ (t p : Nat) (f : Nat → Value) (h : AHeap), p + t = k → h[q]? = some (AObj.siter (gB (lettersL k)) p) → Grew h0 h →
    Knows f [(0, .string (gB (lettersL k))), (1, .int .i32 c), (8, .pointer (some ⟨q, 0, none⟩))] →
    Fin Tryd.prog X none Tryd.f73.ntmps (lpN Tryd.f73 0) .normal ⟨f, h⟩ (fun e y => (e = .normal ∨ e = .ret) ∧ ∃ v, fresults Tryd.prog Tryd.f73.results.toList y = some v ∧ v = .bool (((lettersL k).drop p).any fun d => (d.toNat : Int) == (c : Int)) ∧ Grew h0 y.h) := by
  have hsz := letters_size k hk
  have hll : (lettersL k).length = k := by rw [← gB_size]; exact hsz
  intro t
  induction t with
  | zero =>
    intro p f h hp hit hG hf
    refine Fin_known _ hf ?_
    refine Fin_unrl ?_
    refine Run 1000 ?_
    refine Nxt q (gB (lettersL k)) p (by kernel_rfl) (by kernel_rfl) hit (fun hlt => by omega) (fun _ => ?_)
    refine Run 1000 ?_
    refine Fin_cB false (by kernel_rfl) ?_
    refine Run 1000 ?_
    refine Fin_r (by kernel_rfl) ⟨Or.inr rfl, .bool false, by kernel_rfl, ?_, hG⟩
    rw [List.drop_of_length_le (by omega)]; rfl
  | succ t ih =>
    intro p f h hp hit hG hf
    obtain ⟨d, hd, hd4, hdec⟩ := letters_get k p hk (by omega)
    have hlt : p < (gB (lettersL k)).size := by omega
    obtain ⟨hd1, hd2⟩ := hdec hlt
    have hdrop : (lettersL k).drop p = d :: (lettersL k).drop (p + 1) := by
      have h1 := List.getElem?_eq_getElem (l := lettersL k) (i := p) (by omega)
      rw [hd] at h1
      rw [List.drop_eq_getElem_cons (by omega : p < (lettersL k).length), ← Option.some.inj h1]
    rw [hdrop, List.any_cons]
    refine Fin_known _ hf ?_
    refine Fin_unrl ?_
    refine Run 1000 ?_
    refine Nxt q (gB (lettersL k)) p (by kernel_rfl) (by kernel_rfl) hit (fun _ => ?_) (fun hn => absurd hlt hn)
    rw [hd1, hd2]
    refine Run 1000 ?_
    refine Fin_cB true (by kernel_rfl) ?_
    refine Run 1000 ?_
    refine Fin_c2 ((d.toNat : Int) == (c : Int)) (by kernel_rfl) (fun hb => ?_) (fun hb => ?_)
    · refine Run 1000 ?_
      refine Fin_r (by kernel_rfl) ⟨Or.inr rfl, .bool true, by kernel_rfl, ?_, hG.set hq _⟩
      rw [hb]; rfl
    · refine Run 1000 ?_
      refine Fin_goto (lpN Tryd.f73 0) (h.set q (AObj.siter (gB (lettersL k)) (p + 1))) [(0, .string (gB (lettersL k))), (1, .int .i32 c), (8, .pointer (some ⟨q, 0, none⟩))] (by kernel_rfl) (by kernel_rfl) (by kernel_rfl) (fun f' hf' => ?_)
      rw [hb, Bool.false_or]
      exact ih (p + 1) f' _ (by omega) (List.getElem?_set_self (lt_of_get hit)) (hG.set hq _) hf'
theorem any_inL (k c : Nat) : ((lettersL k).any fun d => (d.toNat : Int) == (c : Int)) = inL k c := by
  unfold inL
  congr 1
  funext d
  rw [Bool.eq_iff_iff, beq_iff_eq, beq_iff_eq]
  exact eq_comm
theorem rune_spec {X : Ext} (hX : X 73 = none) (k : Nat) (hk : k ≤ 4) (c : Nat) (h : AHeap) :
    Ca Tryd.prog X (.fn 73) [.string (gB (lettersL k)), .int .i32 c] h (fun v h' => v = .bool (inL k c) ∧ Grew h h') := by
  refine Ca_fn (fn := Tryd.f73) (c := Tryd.f73.body.getD .skip) hX (by kernel_rfl) (by kernel_rfl) (by kernel_rfl) ?_
  refine Run 1000 ?_
  refine Rng 9 (gB (lettersL k)) (by kernel_rfl) (by kernel_rfl) Tryd.underlying9 ?_
  refine Run 1000 ?_
  refine Fin_goto (lpN Tryd.f73 0) (h ++ [AObj.siter (gB (lettersL k)) 0]) [(0, .string (gB (lettersL k))), (1, .int .i32 c), (8, .pointer (some ⟨h.length, 0, none⟩))] (by kernel_rfl) (by kernel_rfl) (by kernel_rfl) (fun f' hf' => ?_)
  refine (rune_loop (X := X) k hk h c h.length (Nat.le_refl _) k 0 f' _ (by omega) (by simp) ⟨_, rfl⟩ hf').imp fun e y ⟨he, v, hv, hr, hG⟩ => ⟨he, v, hv, ?_, hG⟩
  rw [hr, List.drop_zero, any_inL]

theorem stream_loop {X : Ext} (hX73 : X 73 = none) (k : Nat) (hk : k ≤ 4) (h0 : AHeap) (s : ByteArray) (hs : s.size < 1000000) (r : Nat) (hr0 : h0.length ≤ r) :
    ∀ (t i : Nat) (f : Nat → Value) (h : AHeap), i + t = s.size → Grew h0 h → h[r]? = some (AObj.siter s i) → Knows f [(0, I k), (23, .pointer (some ⟨r, 0, none⟩))] →
    Fin Tryd.prog X none Tryd.f54.ntmps (lpN Tryd.f54 0) .normal ⟨f, h⟩ (fun e y => (e = .normal ∨ e = .ret) ∧ ∃ v, fresults Tryd.prog Tryd.f54.results.toList y = some v ∧ v = I (bif (s.data.toList.drop i).all (fun c => (lettersL k).contains c) then 0 else 1) ∧ Grew h0 y.h) := by
  intro t
  induction t with
  | zero =>
    intro i f h hi hG hr hf
    refine Fin_known _ hf ?_
    refine Fin_unrl ?_
    refine Run 1000 ?_
    refine Nxt r s i (by kernel_rfl) (by kernel_rfl) hr (fun hlt => by omega) (fun _ => ?_)
    refine Run 1000 ?_
    refine Fin_cB false (by kernel_rfl) ?_
    refine Run 1000 ?_
    refine Fin_r (by kernel_rfl) ⟨Or.inr rfl, I 0, by kernel_rfl, ?_, hG⟩
    rw [List.drop_of_length_le (by rw [← Lib.size_eq]; omega)]; rfl
  | succ t ih =>
    intro i f h hi hG hr hf
    have hlt : i < s.size := by omega
    obtain ⟨c, w, hcw⟩ : ∃ c w, Utf8.decode s i = (c, w) := ⟨_, _, rfl⟩
    have hall : ((s.data.toList.drop i).all fun c => (lettersL k).contains c) = ((lettersL k).contains (s[i]'hlt) && (s.data.toList.drop (i + 1)).all fun c => (lettersL k).contains c) := by
      rw [drop_bytes s i hlt, List.all_cons]
    rw [hall]
    refine Fin_known _ hf ?_
    refine Fin_unrl ?_
    refine Run 1000 ?_
    refine Nxt r s i (by kernel_rfl) (by kernel_rfl) hr (fun _ => ?_) (fun hn => absurd hlt hn)
    rw [hcw]
    refine Run 1000 ?_
    refine Fin_cB true (by kernel_rfl) ?_
    refine Run 1000 ?_
    refine Slic 9 (.string { data := #[97, 98, 99, 100] }) (.string (gB (lettersL k))) none (some (I k)) none (by kernel_rfl) (by kernel_rfl) (letters_slice k hk) ?_
    refine Run 1000 ?_
    refine Fin_call 73 [.string (gB (lettersL k)), .int .i32 c] (by kernel_rfl) (by kernel_rfl) (rune_spec hX73 k hk c _) (fun v4 hh4 hv4 => ?_)
    obtain ⟨rfl, G4⟩ := hv4
    refine Run 1000 ?_
    refine Fin_cB (!(inL k c)) (by kernel_rfl) ?_
    by_cases hb : (s[i]'hlt).toNat < 128
    · have hd := decode_ascii s i hlt hb
      rw [hcw] at hd
      simp only [Prod.mk.injEq] at hd
      obtain ⟨rfl, rfl⟩ := hd
      have hiff : (lettersL k).contains (s[i]'hlt) = inL k (s[i]'hlt).toNat := by
        rw [Bool.eq_iff_iff, inL_byte, List.contains_iff_mem]
      rw [hiff]
      cases hin : inL k (s[i]'hlt).toNat with
      | true =>
        refine Run 1000 ?_
        refine Fin_goto (lpN Tryd.f54 0) hh4 [(0, I k), (23, .pointer (some ⟨r, 0, none⟩))] (by kernel_rfl) (by kernel_rfl) (by kernel_rfl) (fun f3 hf3 => ?_)
        rw [Bool.true_and]
        exact ih (i + 1) f3 hh4 (by omega) ((hG.set hr0 _).trans G4) (G4.at (List.getElem?_set_self (lt_of_get hr))) hf3
      | false =>
        refine Run 1000 ?_
        exact Fin_r (by kernel_rfl) ⟨Or.inr rfl, I 1, by kernel_rfl, rfl, (hG.set hr0 _).trans G4⟩
    · have hhigh := (decode_high s i hlt (by omega)).1
      rw [hcw] at hhigh
      rw [inL_high hhigh]
      have hno : (lettersL k).contains (s[i]'hlt) = false := by
        rw [Bool.eq_false_iff]; intro h
        exact hb (letters_low (List.contains_iff_mem.1 h))
      rw [hno]
      refine Run 1000 ?_
      exact Fin_r (by kernel_rfl) ⟨Or.inr rfl, I 1, by kernel_rfl, rfl, (hG.set hr0 _).trans G4⟩
/-- What 'openStream' answers for a code in order. -/
def streamOK (k : Nat) (s : ByteArray) : Bool := decide (s.size ≤ 1000) && overF k s
theorem stream_spec {X : Ext} (hX : X 54 = none) (hX49 : X 49 = none) (hX73 : X 73 = none) (x : OverX X) (k n : Nat) (hin : inRange k n = true) (h : AHeap) (a : Option Addr) (kk : Nat) (L : List ByteArray) (hL : L.length < 1000000) (hst : Strs h a L) (hc : codeF k n L = true) (s : ByteArray) (hs : s.size < 1000000) :
    Ca Tryd.prog X (.fn 54) [I k, I n, .slice a L.length kk, .string s] h (fun v h' => v = I (bif streamOK k s then 0 else 1) ∧ Grew h h') := by
  have hopen : openF k n L = 0 := by
    unfold openF
    rw [if_pos hin]
    simp only [Int.toNat_natCast, hc, cod]
    rfl
  obtain ⟨i1, i2, i3, i4⟩ := inRange_iff.1 hin
  refine Ca_fn (fn := Tryd.f54) (c := Tryd.f54.body.getD .skip) hX (by kernel_rfl) (by kernel_rfl) (by kernel_rfl) ?_
  refine Run 1000 ?_
  refine Fin_call 49 [I k, I n, .slice a L.length kk] (by kernel_rfl) (by kernel_rfl) (open_spec hX49 x k n h a kk L (by omega) hst) (fun v1 hh1 hv1 => ?_)
  obtain ⟨rfl, G1⟩ := hv1
  rw [hopen]
  refine RunA 1000 1 ?_
  refine Fin_c ((s.size : Int) > 1000) (by kernel_rfl) (fun h3 => ?_) (fun h3 => ?_)
  · refine Run 1000 ?_
    refine Fin_r (by kernel_rfl) ⟨Or.inr rfl, I 1, by kernel_rfl, ?_, G1⟩
    unfold streamOK; rw [decide_eq_false (by omega)]; rfl
  · refine Run 1000 ?_
    refine Rng 9 s (by kernel_rfl) (by kernel_rfl) Tryd.underlying9 ?_
    refine Run 1000 ?_
    refine Fin_goto (lpN Tryd.f54 0) (hh1 ++ [AObj.siter s 0]) [(0, I k), (23, .pointer (some ⟨hh1.length, 0, none⟩))] (by kernel_rfl) (by kernel_rfl) (by kernel_rfl) (fun f' hf' => ?_)
    refine (stream_loop (X := X) hX73 k (by omega) hh1 s hs hh1.length (Nat.le_refl _) s.size 0 f' _ (by omega) ⟨_, rfl⟩ (by simp) hf').imp fun e y ⟨he, v, hv, hr, hG⟩ => ⟨he, v, hv, ?_, G1.trans hG⟩
    rw [hr]
    unfold streamOK
    rw [decide_eq_true (by omega), Bool.true_and]; rfl

/-- A stream from a place on, in pieces. -/
def pcs (s : ByteArray) (n : Nat) : Nat → Nat → List ByteArray
  | 0, _ => []
  | t + 1, a => if a + n ≤ s.size then s.extract a (a + n) :: pcs s n t (a + n) else []
theorem pcs_loop {X : Ext} (h0 : AHeap) (s : ByteArray) (hs : s.size < 1000000) (n : Nat) (hn1 : 1 ≤ n) (hn : n ≤ 1000) :
    ∀ (t p : Nat) (f : Nat → Value) (h : AHeap) (v : Value) (out : List ByteArray), s.size < p + t → p < 2000000 → out.length ≤ p → Acc h0 h v out → Knows f [(0, .string s), (1, I p), (2, I n), (7, v)] →
    Fin Tryd.prog X none Tryd.f56.ntmps (lpN Tryd.f56 0) .normal ⟨f, h⟩ (fun e y => (e = .normal ∨ e = .ret) ∧ ∃ v, fresults Tryd.prog Tryd.f56.results.toList y = some v ∧ Acc h0 y.h v (out ++ pcs s n t p)) := by
  intro t
  induction t with
  | zero =>
    intro p f h v out hp hp2 ho A hf
    have hw : IntKind.wrap .i64 ((p : Int) + n) = ((p + n : Nat) : Int) := by rw [wrap_small (by omega) (by omega)]; simp
    refine Fin_known _ hf ?_
    refine Fin_unrl ?_
    refine Run 1000 ?_
    refine Fin_c (IntKind.wrap .i64 ((p : Int) + n) ≤ s.size) (by kernel_rfl) (fun h1 => by omega) (fun h1 => ?_)
    refine Run 1000 ?_
    refine Fin_r (by kernel_rfl) ⟨Or.inr rfl, v, by kernel_rfl, ?_⟩
    simpa [pcs] using A
  | succ t ih =>
    intro p f h v out hp hp2 ho A hf
    have hw : IntKind.wrap .i64 ((p : Int) + n) = ((p + n : Nat) : Int) := by rw [wrap_small (by omega) (by omega)]; simp
    refine Fin_known _ hf ?_
    refine Fin_unrl ?_
    refine Run 1000 ?_
    refine Fin_c (IntKind.wrap .i64 ((p : Int) + n) ≤ s.size) (by kernel_rfl) (fun h1 => ?_) (fun h1 => ?_)
    · have hle : p + n ≤ s.size := by omega
      obtain ⟨v2, h2, e2, A2, _, _⟩ := A.app (s.extract p (p + n)) (by omega)
      refine Run 1000 ?_
      refine Slic 9 (.string s) (.string (s.extract p (p + n))) (some (I p)) (some (I (IntKind.wrap .i64 ((p : Int) + n)))) none (by kernel_rfl) (by kernel_rfl) (by rw [hw]; exact slice_both s p (p + n) (by omega) hle) ?_
      refine Run 1000 ?_
      refine Bld 22 1 [(0, .string (s.extract p (p + n)))] (.slice (some ⟨h.length, 0, some 1⟩) 1 1) (h ++ [AObj.row [Value.string (s.extract p (p + n))] true]) (by kernel_rfl) (by kernel_rfl) (by simp [abuildSlice, ti22, ti9, zerosOf, afill, splice, isCell, Value.cells, isData]) ?_
      refine Run 1000 ?_
      refine App 22 22 v (.slice (some ⟨h.length, 0, some 1⟩) 1 1) v2 h2 (by kernel_rfl) (by kernel_rfl) Tryd.underlying22 (by simp) e2 ?_
      refine Run 1000 ?_
      refine Fin_goto (lpN Tryd.f56 0) h2 [(0, .string s), (1, I (IntKind.wrap .i64 ((p : Int) + n))), (2, I n), (7, v2)] (by kernel_rfl) (by kernel_rfl) (by kernel_rfl) (fun f' hf' => ?_)
      rw [hw] at hf'
      have := ih (p + n) f' h2 v2 (out ++ [s.extract p (p + n)]) (by omega) (by omega) (by simp; omega) A2 hf'
      simp only [pcs, if_pos hle]
      simpa using this
    · refine Run 1000 ?_
      refine Fin_r (by kernel_rfl) ⟨Or.inr rfl, v, by kernel_rfl, ?_⟩
      simp only [pcs, if_neg (show ¬p + n ≤ s.size by omega), List.append_nil]
      exact A
/-- What 'pieces' answers. -/
def piecesF (s : ByteArray) (n p : Nat) : List ByteArray := pcs s n (s.size + 1) p
theorem pieces_spec {X : Ext} (hX : X 56 = none) (s : ByteArray) (hs : s.size < 1000000) (n : Nat) (hn1 : 1 ≤ n) (hn : n ≤ 1000) (p : Nat) (hp : p < 1000000) (h : AHeap) :
    Ca Tryd.prog X (.fn 56) [.string s, I p, I n] h (fun v h' => Acc h h' v (piecesF s n p)) := by
  refine Ca_fn (fn := Tryd.f56) (c := Tryd.f56.body.getD .skip) hX (by kernel_rfl) (by kernel_rfl) (by kernel_rfl) ?_
  refine Run 1000 ?_
  refine Fin_goto (lpN Tryd.f56 0) h [(0, .string s), (1, I p), (2, I n), (7, .slice none 0 0)] (by kernel_rfl) (by kernel_rfl) (by kernel_rfl) (fun f' hf' => ?_)
  have := pcs_loop (X := X) h s hs n hn1 hn (s.size + 1) p f' h _ [] (by omega) (by omega) (by simp) (Acc.nil h) hf'
  simpa [piecesF] using this
end Go.Proofs.YtpbmpdocgplhpaaDoor

/-
  Lists of numbers that grow by append.
-/
set_option linter.unusedSimpArgs false
set_option linter.unusedVariables false
set_option maxRecDepth 100000
namespace Go.Proofs.YtpbmpdocgplhpaaDoor
open Go Go.AM

theorem ti40 : ti Tryd.prog 40 = some ⟨.slice 3, 1, 24, .slice none 0 0⟩ := by kernel_rfl

/-- v is the slice of the numbers L, in memory newer than h0 of which all is as it was. -/
structure AccI (h0 h : AHeap) (v : Value) (L : List Int) : Prop where
  le : h0.length ≤ h.length
  old : ∀ j, j < h0.length → h[j]? = h0[j]?
  val : (L = [] ∧ v = .slice none 0 0) ∨ ∃ b, h0.length ≤ b ∧ v = .slice (some ⟨b, 0, some 1⟩) L.length (L.length + 1) ∧ h[b]? = some (.row (ints L) true)

theorem AccI.nil (h : AHeap) : AccI h h (.slice none 0 0) [] := ⟨Nat.le_refl _, fun _ _ => rfl, Or.inl ⟨rfl, rfl⟩⟩
theorem AccI.grew {h0 h : AHeap} {v : Value} {L : List Int} (A : AccI h0 h v L) : Grew h0 h := by
  refine ⟨h.drop h0.length, ?_⟩
  apply List.ext_getElem?
  intro j
  by_cases hj : j < h0.length
  · rw [List.getElem?_append_left hj, A.old j hj]
  · rw [List.getElem?_append_right (by omega), List.getElem?_drop]
    congr 1; omega
theorem AccI.more {h0 h h' : AHeap} {v : Value} {L : List Int} (A : AccI h0 h v L) (g : Grew h h') : AccI h0 h' v L := by
  obtain ⟨g, rfl⟩ := g
  refine ⟨by have := A.le; simp; omega, fun j hj => by rw [List.getElem?_append_left (by have := A.le; omega)]; exact A.old j hj, ?_⟩
  rcases A.val with hh | ⟨b, hb, e, hr⟩
  · exact Or.inl hh
  · exact Or.inr ⟨b, hb, e, by rw [List.getElem?_append_left (lt_of_get hr)]; exact hr⟩
theorem AccI.shape {h0 h : AHeap} {v : Value} {L : List Int} (A : AccI h0 h v L) : ∃ a kk, v = .slice a L.length kk := by
  rcases A.val with ⟨rfl, rfl⟩ | ⟨b, hb, rfl, hr⟩
  · exact ⟨_, _, rfl⟩
  · exact ⟨_, _, rfl⟩

/-- One more number: a literal of one, appended. -/
theorem AccI.app {h0 h : AHeap} {v : Value} {L : List Int} (A : AccI h0 h v L) (s : Int) (hL : L.length < 4294967295) :
    ∃ v' h', aappend Tryd.prog (h ++ [.row [I s] true]) 40 v (.slice (some ⟨h.length, 0, some 1⟩) 1 1) = some (v', h') ∧ AccI h0 h' v' (L ++ [s]) ∧
      h.length ≤ h'.length ∧ ∀ j, (∀ cs, h[j]? ≠ some (.row cs true)) → j < h.length → h'[j]? = h[j]? := by
  have hnew : loadN (h ++ [AObj.row [I s] true]) h.length 0 (1 * 1) = some [I s] := by simp [loadN, cells?]
  have hlim : L.length + 1 ≤ lim := by simp only [lim]; omega
  rcases A.val with ⟨rfl, rfl⟩ | ⟨b, hb, rfl, hr⟩
  · refine ⟨.slice (some ⟨(h ++ [AObj.row [I s] true]).length, 0, some 1⟩) 1 2, (h ++ [AObj.row [I s] true]) ++ [AObj.row [I s] true], ?_, ⟨?_, ?_, ?_⟩, ?_, ?_⟩
    · simp only [aappend, ti40, elemsLen, ti3, loadElems, if_true, hnew]
      have e1 : decide (0 + 1 ≤ lim) = true := by decide
      simp only [e1, limBytes]
      rfl
    · have := A.le; simp; omega
    · intro j hj
      have := A.le
      rw [List.getElem?_append_left (by simp; omega), List.getElem?_append_left (by omega)]
      exact A.old j hj
    · refine Or.inr ⟨(h ++ [AObj.row [I s] true]).length, by have := A.le; simp; omega, rfl, ?_⟩
      rw [List.getElem?_append_right (Nat.le_refl _)]; simp [ints]
    · simp
    · intro j _ hj
      rw [List.getElem?_append_left (by simp; omega), List.getElem?_append_left (by omega)]
  · have hbl : b < h.length := lt_of_get hr
    have hr' : (h ++ [AObj.row [I s] true])[b]? = some (.row (ints L) true) := by rw [List.getElem?_append_left hbl]; exact hr
    have hold : loadN (h ++ [AObj.row [I s] true]) b 0 (L.length * 1) = some (ints L) := by
      simp only [loadN, cells?, hr', ints_length]
      rw [if_pos (by omega)]; simp [List.take_of_length_le, ints_length]
    refine ⟨.slice (some ⟨(h ++ [AObj.row [I s] true]).length, 0, some 1⟩) (L.length + 1) (L.length + 1 + 1), (h ++ [AObj.row [I s] true]).set b AObj.dead ++ [AObj.row (ints L ++ [I s]) true], ?_, ⟨?_, ?_, ?_⟩, ?_, ?_⟩
    · simp only [aappend, ti40, elemsLen, ti3, loadElems, if_true, hnew, hold, hr']
      have e1 : decide (L.length + 1 ≤ lim) = true := by simp [hlim]
      simp [e1, limBytes, isCell]
    · have := A.le; simp; omega
    · intro j hj
      have := A.le
      rw [List.getElem?_append_left (by simp; omega), List.getElem?_set_ne (by omega), List.getElem?_append_left (by omega)]
      exact A.old j hj
    · refine Or.inr ⟨(h ++ [AObj.row [I s] true]).length, by have := A.le; simp; omega, by simp, ?_⟩
      rw [List.getElem?_append_right (by simp)]; simp [ints]
    · simp; omega
    · intro j hn hj
      have hne : b ≠ j := by intro e; subst e; exact hn _ hr
      rw [List.getElem?_append_left (by simp; omega), List.getElem?_set_ne hne, List.getElem?_append_left (by omega)]
theorem AccI.load {h0 h : AHeap} {v : Value} {L : List Int} (A : AccI h0 h v L) (i : Nat) (hi : i < L.length) : ∃ b, v = .slice (some ⟨b, 0, some 1⟩) L.length (L.length + 1) ∧ h[b]? = some (.row (ints L) true) ∧ (ints L)[i]? = some (I L[i]) := by
  rcases A.val with ⟨rfl, rfl⟩ | ⟨b, hb, rfl, hr⟩
  · simp at hi
  · exact ⟨b, rfl, hr, by simp [ints, hi]⟩
end Go.Proofs.YtpbmpdocgplhpaaDoor

/-
  slices.Contains and ContainsFunc of strings; flag.reads, Reads and Cut.
-/
set_option linter.unusedSimpArgs false
set_option linter.unusedVariables false
set_option maxRecDepth 100000
namespace Go.Proofs.YtpbmpdocgplhpaaDoor
open Go Go.AM

/-- Whether a word is one of a list. -/
def isIn (w : ByteArray) (L : List ByteArray) : Bool := L.any fun x => seq w x
theorem isIn_iff {w : ByteArray} {L : List ByteArray} : isIn w L = true ↔ w ∈ L := by
  unfold isIn
  rw [List.any_eq_true]
  exact ⟨fun ⟨x, hx, h⟩ => seq_iff.1 h ▸ hx, fun h => ⟨w, h, seq_iff.2 rfl⟩⟩
theorem isIn_has (w : ByteArray) (L : List ByteArray) : (L.any fun x => seq x w) = isIn w L := by
  rw [Bool.eq_iff_iff, isIn_iff, List.any_eq_true]
  exact ⟨fun ⟨x, hx, h⟩ => seq_iff.1 h ▸ hx, fun h => ⟨w, h, seq_iff.2 rfl⟩⟩
/-- The first place of a word, from a place on; -1: none. -/
def idxF (L : List ByteArray) (w : ByteArray) (i : Nat) : Int := bif (L.drop i).any fun x => seq w x then ((i + (L.drop i).findIdx fun x => seq w x : Nat) : Int) else -1
theorem index_loop {X : Ext} (h : AHeap) (a : Option Addr) (kk : Nat) (L : List ByteArray) (w : ByteArray) (hL : L.length < 1000000) (hs : Strs h a L) :
    ∀ (t i : Nat) (f : Nat → Value), i + t = L.length → Knows f [(0, .slice a L.length kk), (1, .string w), (6, .slice a L.length kk), (7, I L.length), (8, I i)] →
    Fin Tryd.prog X none Tryd.f80.ntmps (lpN Tryd.f80 0) .normal ⟨f, h⟩ (fun e y => (e = .normal ∨ e = .ret) ∧ ∃ v, fresults Tryd.prog Tryd.f80.results.toList y = some v ∧ v = I (idxF L w i) ∧ y.h = h) := by
  intro t
  induction t with
  | zero =>
    intro i f hi hf
    refine Fin_known _ hf ?_
    refine Fin_unrl ?_
    refine Run 1000 ?_
    refine Fin_c ((i : Int) < L.length) (by kernel_rfl) (fun h1 => by omega) (fun h2 => ?_)
    refine Run 1000 ?_
    refine Fin_r (by kernel_rfl) ⟨Or.inr rfl, I (-1), by kernel_rfl, ?_, rfl⟩
    unfold idxF
    rw [List.drop_of_length_le (by omega)]; rfl
  | succ t ih =>
    intro i f hi hf
    have hlt : i < L.length := by omega
    obtain ⟨b, o, cs, own, rfl, hb, hc⟩ := hs.2 i hlt
    have hd : L.drop i = L[i] :: L.drop (i + 1) := List.drop_eq_getElem_cons hlt
    refine Fin_known _ hf ?_
    refine Fin_unrl ?_
    refine Run 1000 ?_
    refine Fin_c ((i : Int) < L.length) (by kernel_rfl) (fun h1 => ?_) (fun h2 => by omega)
    refine Run 1000 ?_
    refine IdxA 22 b o 1 L.length kk .i64 i (by kernel_rfl) (by kernel_rfl) ti22 rfl ti9 rfl (by omega) (by omega) ?_
    refine Run 1000 ?_
    refine Load 9 (.pointer (some ⟨b, o + (i : Int).toNat * 1, none⟩)) (.string L[i]) (by kernel_rfl) (by kernel_rfl) (load_row ti9 rfl hb (by simpa using hc)) ?_
    refine Run 1000 ?_
    refine Fin_c2 (seq w L[i]) (by kernel_rfl) (fun hb2 => ?_) (fun hb2 => ?_)
    · refine Run 1000 ?_
      refine Fin_r (by kernel_rfl) ⟨Or.inr rfl, I i, by kernel_rfl, ?_, rfl⟩
      unfold idxF
      rw [hd, List.any_cons, hb2, List.findIdx_cons, hb2]
      simp
    · refine Run 1000 ?_
      refine Fin_goto (lpN Tryd.f80 0) h [(0, .slice (some ⟨b, o, some 1⟩) L.length kk), (1, .string w), (6, .slice (some ⟨b, o, some 1⟩) L.length kk), (7, I L.length), (8, I (IntKind.wrap .i64 ((i : Int) + 1)))] (by kernel_rfl) (by kernel_rfl) (by kernel_rfl) (fun f' hf' => ?_)
      rw [wrap_next hlt (by omega)] at hf'
      have e : idxF L w i = idxF L w (i + 1) := by
        unfold idxF
        rw [hd, List.any_cons, hb2, List.findIdx_cons, hb2, Bool.false_or]
        simp only [cond_false]
        congr 1
        omega
      rw [e]
      exact ih (i + 1) f' (by omega) hf'
theorem contains_spec {X : Ext} (hX : X 68 = none) (hX80 : X 80 = none) (h : AHeap) (a : Option Addr) (kk : Nat) (L : List ByteArray) (w : ByteArray) (hL : L.length < 1000000) (hs : Strs h a L) :
    Ca Tryd.prog X (.fn 68) [.slice a L.length kk, .string w] h (fun v h' => v = .bool (isIn w L) ∧ h' = h) := by
  refine Ca_fn (fn := Tryd.f68) (c := Tryd.f68.body.getD .skip) hX (by kernel_rfl) (by kernel_rfl) (by kernel_rfl) ?_
  refine Run 1000 ?_
  have h80 : Ca Tryd.prog X (.fn 80) [.slice a L.length kk, .string w] h (fun v h' => v = I (idxF L w 0) ∧ h' = h) := by
    refine Ca_fn (fn := Tryd.f80) (c := Tryd.f80.body.getD .skip) hX80 (by kernel_rfl) (by kernel_rfl) (by kernel_rfl) ?_
    refine Run 1000 ?_
    refine Fin_goto (lpN Tryd.f80 0) h [(0, .slice a L.length kk), (1, .string w), (6, .slice a L.length kk), (7, I L.length), (8, I (0 : Nat))] (by kernel_rfl) (by kernel_rfl) (by kernel_rfl) (fun f' hf' => ?_)
    exact index_loop h a kk L w hL hs L.length 0 f' (by omega) hf'
  refine Fin_call 80 [.slice a L.length kk, .string w] (by kernel_rfl) (by kernel_rfl) h80 (fun v1 hh1 hv1 => ?_)
  obtain ⟨rfl, rfl⟩ := hv1
  refine Run 1000 ?_
  refine Fin_r (by kernel_rfl) ⟨Or.inr rfl, .bool (decide (idxF L w 0 ≥ 0)), by kernel_rfl, ?_, rfl⟩
  unfold isIn idxF
  rw [List.drop_zero]
  cases L.any fun x => seq w x with
  | true => simp only [cond_true]; rw [decide_eq_true (by omega)]
  | false => rfl

/-- The first of words that is not one of a code; -1: none. -/
def idxN (L M : List ByteArray) (i : Nat) : Int := bif (M.drop i).any fun x => !isIn x L then ((i + (M.drop i).findIdx fun x => !isIn x L : Nat) : Int) else -1
theorem not_in {X : Ext} (hX75 : X 75 = none) (hX : X 68 = none) (hX80 : X 80 = none) (h : AHeap) (a : Option Addr) (kk : Nat) (L : List ByteArray) (w : ByteArray) (hL : L.length < 1000000) (hs : Strs h a L) (q : Nat) (hq : h[q]? = some (.row [.slice a L.length kk] true)) :
    Ca Tryd.prog X (.fn 75) [.string w, .pointer (some ⟨q, 0, none⟩)] h (fun v h' => v = .bool (!isIn w L) ∧ h' = h) := by
  refine Ca_fn (fn := Tryd.f75) (c := Tryd.f75.body.getD .skip) hX75 (by kernel_rfl) (by kernel_rfl) (by kernel_rfl) ?_
  refine Run 1000 ?_
  refine Load 22 (.pointer (some ⟨q, 0, none⟩)) (.slice a L.length kk) (by kernel_rfl) (by kernel_rfl) (load_row ti22 rfl hq rfl) ?_
  refine Run 1000 ?_
  refine Fin_call 68 [.slice a L.length kk, .string w] (by kernel_rfl) (by kernel_rfl) (contains_spec hX hX80 h a kk L w hL hs) (fun v2 hh2 hv2 => ?_)
  obtain ⟨rfl, rfl⟩ := hv2
  refine Run 1000 ?_
  exact Fin_r (by kernel_rfl) ⟨Or.inr rfl, .bool (!isIn w L), by kernel_rfl, rfl, rfl⟩
abbrev notIn (q : Nat) : Value := .func (.func 75) #[] #[.pointer (some ⟨q, 0, none⟩)]
theorem idxf_loop {X : Ext} (hX75 : X 75 = none) (hX : X 68 = none) (hX80 : X 80 = none) (h : AHeap) (a : Option Addr) (kk : Nat) (L : List ByteArray) (hL : L.length < 1000000) (hs : Strs h a L) (q : Nat) (hq : h[q]? = some (.row [.slice a L.length kk] true))
    (a2 : Option Addr) (k2 : Nat) (M : List ByteArray) (hM : M.length < 1000000) (hs2 : Strs h a2 M) :
    ∀ (t i : Nat) (f : Nat → Value), i + t = M.length → Knows f [(0, .slice a2 M.length k2), (1, notIn q), (6, .slice a2 M.length k2), (7, I M.length), (8, I i)] →
    Fin Tryd.prog X none Tryd.f90.ntmps (lpN Tryd.f90 0) .normal ⟨f, h⟩ (fun e y => (e = .normal ∨ e = .ret) ∧ ∃ v, fresults Tryd.prog Tryd.f90.results.toList y = some v ∧ v = I (idxN L M i) ∧ y.h = h) := by
  intro t
  induction t with
  | zero =>
    intro i f hi hf
    refine Fin_known _ hf ?_
    refine Fin_unrl ?_
    refine Run 1000 ?_
    refine Fin_c ((i : Int) < M.length) (by kernel_rfl) (fun h1 => by omega) (fun h2 => ?_)
    refine Run 1000 ?_
    refine Fin_r (by kernel_rfl) ⟨Or.inr rfl, I (-1), by kernel_rfl, ?_, rfl⟩
    unfold idxN
    rw [List.drop_of_length_le (by omega)]; rfl
  | succ t ih =>
    intro i f hi hf
    have hlt : i < M.length := by omega
    obtain ⟨b, o, cs, own, rfl, hb, hc⟩ := hs2.2 i hlt
    have hd : M.drop i = M[i] :: M.drop (i + 1) := List.drop_eq_getElem_cons hlt
    refine Fin_known _ hf ?_
    refine Fin_unrl ?_
    refine Run 1000 ?_
    refine Fin_c ((i : Int) < M.length) (by kernel_rfl) (fun h1 => ?_) (fun h2 => by omega)
    refine Run 1000 ?_
    refine IdxA 22 b o 1 M.length k2 .i64 i (by kernel_rfl) (by kernel_rfl) ti22 rfl ti9 rfl (by omega) (by omega) ?_
    refine Run 1000 ?_
    refine Load 9 (.pointer (some ⟨b, o + (i : Int).toNat * 1, none⟩)) (.string M[i]) (by kernel_rfl) (by kernel_rfl) (load_row ti9 rfl hb (by simpa using hc)) ?_
    refine Run 1000 ?_
    refine Fin_call 75 [.string M[i], .pointer (some ⟨q, 0, none⟩)] (by kernel_rfl) (by kernel_rfl) (not_in hX75 hX hX80 h a kk L M[i] hL hs q hq) (fun v2 hh2 hv2 => ?_)
    obtain ⟨rfl, rfl⟩ := hv2
    refine Run 1000 ?_
    refine Fin_c2 (!isIn M[i] L) (by kernel_rfl) (fun hb2 => ?_) (fun hb2 => ?_)
    · refine Run 1000 ?_
      refine Fin_r (by kernel_rfl) ⟨Or.inr rfl, I i, by kernel_rfl, ?_, rfl⟩
      unfold idxN
      rw [hd, List.any_cons, hb2, List.findIdx_cons, hb2]
      simp
    · refine Run 1000 ?_
      refine Fin_goto (lpN Tryd.f90 0) hh2 [(0, .slice (some ⟨b, o, some 1⟩) M.length k2), (1, notIn q), (6, .slice (some ⟨b, o, some 1⟩) M.length k2), (7, I M.length), (8, I (IntKind.wrap .i64 ((i : Int) + 1)))] (by kernel_rfl) (by kernel_rfl) (by kernel_rfl) (fun f' hf' => ?_)
      rw [wrap_next hlt (by omega)] at hf'
      have e : idxN L M i = idxN L M (i + 1) := by
        unfold idxN
        rw [hd, List.any_cons, hb2, List.findIdx_cons, hb2, Bool.false_or]
        simp only [cond_false]
        congr 1
        omega
      rw [e]
      exact ih (i + 1) f' (by omega) hf'
structure ReadX (X : Ext) : Prop where
  s : X 54 = none
  r : X 73 = none
  p : X 56 = none
  rd : X 55 = none
  cf : X 74 = none
  ci : X 90 = none
  ni : X 75 = none
  c : X 68 = none
  ix : X 80 = none
theorem cfunc_spec {X : Ext} (x : ReadX X) (h : AHeap) (a : Option Addr) (kk : Nat) (L : List ByteArray) (hL : L.length < 1000000) (hs : Strs h a L) (q : Nat) (hq : h[q]? = some (.row [.slice a L.length kk] true))
    (a2 : Option Addr) (k2 : Nat) (M : List ByteArray) (hM : M.length < 1000000) (hs2 : Strs h a2 M) :
    Ca Tryd.prog X (.fn 74) [.slice a2 M.length k2, notIn q] h (fun v h' => v = .bool (!M.all fun w => isIn w L) ∧ h' = h) := by
  refine Ca_fn (fn := Tryd.f74) (c := Tryd.f74.body.getD .skip) x.cf (by kernel_rfl) (by kernel_rfl) (by kernel_rfl) ?_
  refine Run 1000 ?_
  have h90 : Ca Tryd.prog X (.fn 90) [.slice a2 M.length k2, notIn q] h (fun v h' => v = I (idxN L M 0) ∧ h' = h) := by
    refine Ca_fn (fn := Tryd.f90) (c := Tryd.f90.body.getD .skip) x.ci (by kernel_rfl) (by kernel_rfl) (by kernel_rfl) ?_
    refine Run 1000 ?_
    refine Fin_goto (lpN Tryd.f90 0) h [(0, .slice a2 M.length k2), (1, notIn q), (6, .slice a2 M.length k2), (7, I M.length), (8, I (0 : Nat))] (by kernel_rfl) (by kernel_rfl) (by kernel_rfl) (fun f' hf' => ?_)
    exact idxf_loop x.ni x.c x.ix h a kk L hL hs q hq a2 k2 M hM hs2 M.length 0 f' (by omega) hf'
  refine Fin_call 90 [.slice a2 M.length k2, notIn q] (by kernel_rfl) (by kernel_rfl) h90 (fun v1 hh1 hv1 => ?_)
  obtain ⟨rfl, rfl⟩ := hv1
  refine Run 1000 ?_
  refine Fin_r (by kernel_rfl) ⟨Or.inr rfl, .bool (decide (idxN L M 0 ≥ 0)), by kernel_rfl, ?_, rfl⟩
  rw [List.not_all_eq_any_not]
  unfold idxN
  rw [List.drop_zero]
  cases M.any fun x => !isIn x L with
  | true => simp only [cond_true]; rw [decide_eq_true (by omega)]
  | false => rfl

theorem pcs_length (s : ByteArray) (n : Nat) (hn : 1 ≤ n) : ∀ t p, (pcs s n t p).length ≤ s.size - p := by
  intro t
  induction t with
  | zero => intro p; simp [pcs]
  | succ t ih =>
    intro p
    simp only [pcs]
    split
    · have := ih (p + n); simp only [List.length_cons]; omega
    · simp
/-- Whether a code reads a stream from a letter on. -/
def okAt (n : Nat) (L : List ByteArray) (s : ByteArray) (p : Nat) : Bool := decide (0 < (piecesF s n p).length) && (piecesF s n p).all fun w => isIn w L
/-- What 'reads' answers, from a letter on. -/
def readsG (n : Nat) (L : List ByteArray) (s : ByteArray) (i : Nat) : List Int := ((List.range' i (n - i)).filter (okAt n L s)).map fun (i : Nat) => (i : Int)
theorem readsG_end (n : Nat) (L : List ByteArray) (s : ByteArray) : readsG n L s n = [] := by simp [readsG]
theorem readsG_step (n : Nat) (L : List ByteArray) (s : ByteArray) (i : Nat) (hi : i < n) : readsG n L s i = (bif okAt n L s i then [(i : Int)] else []) ++ readsG n L s (i + 1) := by
  unfold readsG
  rw [show n - i = (n - (i + 1)) + 1 by omega, List.range'_succ, List.filter_cons]
  cases okAt n L s i <;> simp
theorem reads_loop {X : Ext} (x : ReadX X) (h0 : AHeap) (a : Option Addr) (kk : Nat) (L : List ByteArray) (hL : L.length < 1000000) (hs0 : Strs h0 a L) (s : ByteArray) (hs : s.size < 1000000) (n : Nat) (hn1 : 1 ≤ n) (hn : n ≤ 1000) (q : Nat) (hq0 : h0[q]? = some (.row [.slice a L.length kk] true)) :
    ∀ (t i : Nat) (out : List Int) (v : Value) (f : Nat → Value) (h : AHeap), i + t = n → out.length ≤ i → AccI h0 h v out → Knows f [(0, I n), (1, .slice a L.length kk), (2, .string s), (4, .pointer (some ⟨q, 0, none⟩)), (7, v), (10, I n), (11, I i)] →
    Fin Tryd.prog X none Tryd.f55.ntmps (lpN Tryd.f55 0) .normal ⟨f, h⟩ (fun e y => (e = .normal ∨ e = .ret) ∧ ∃ v, fresults Tryd.prog Tryd.f55.results.toList y = some v ∧ AccI h0 y.h v (out ++ readsG n L s i)) := by
  intro t
  induction t with
  | zero =>
    intro i out v f h hi ho A hf
    obtain rfl : i = n := by omega
    refine Fin_known _ hf ?_
    refine Fin_unrl ?_
    refine Run 1000 ?_
    refine Fin_c ((i : Int) < i) (by kernel_rfl) (fun h1 => by omega) (fun h2 => ?_)
    refine Run 1000 ?_
    refine Fin_r (by kernel_rfl) ⟨Or.inr rfl, v, by kernel_rfl, ?_⟩
    rw [readsG_end, List.append_nil]; exact A
  | succ t ih =>
    intro i out v f h hi ho A hf
    have hlt : i < n := by omega
    have G := A.grew
    refine Fin_known _ hf ?_
    refine Fin_unrl ?_
    refine Run 1000 ?_
    refine Fin_c ((i : Int) < n) (by kernel_rfl) (fun h1 => ?_) (fun h2 => by omega)
    refine Run 1000 ?_
    refine Fin_call 56 [.string s, I i, I n] (by kernel_rfl) (by kernel_rfl) (pieces_spec x.p s hs n hn1 hn i (by omega) h) (fun v2 hh2 hv2 => ?_)
    have G2 : Grew h hh2 := hv2.grew
    obtain ⟨a2, k2, rfl, st2⟩ := hv2.as_strs
    obtain ⟨M, eM⟩ : ∃ M, M = piecesF s n i := ⟨_, rfl⟩
    have hMl : M.length < 1000000 := by have := pcs_length s n hn1 (s.size + 1) i; rw [eM]; unfold piecesF; omega
    rw [← eM] at st2
    have hok : okAt n L s i = (decide (0 < M.length) && M.all fun w => isIn w L) := by rw [eM]; rfl
    rw [← eM, readsG_step n L s i hlt, hok]
    refine Run 1000 ?_
    refine Fin_g ((M.length : Int) > 0) (by kernel_rfl) (by kernel_rfl) (fun h4 => ?_) (fun h4 => ?_)
    · refine Run 1000 ?_
      refine Fin_call 74 [.slice a2 M.length k2, notIn q] (by kernel_rfl) (by kernel_rfl) (cfunc_spec x hh2 a kk L hL ((hs0.grow G).grow G2) q ((G.trans G2).at hq0) a2 k2 M hMl st2) (fun v5 hh5 hv5 => ?_)
      obtain ⟨rfl, rfl⟩ := hv5
      rw [decide_eq_true (show 0 < M.length by omega), Bool.true_and]
      refine Run 1000 ?_
      cases hall : M.all fun w => isIn w L with
      | true =>
        obtain ⟨v6, h6, e6, A6, _, _⟩ := (A.more G2).app i (by omega)
        refine Fin_cB true (by kernel_rfl) ?_
        refine Run 1000 ?_
        refine Bld 40 1 [(0, I i)] (.slice (some ⟨hh5.length, 0, some 1⟩) 1 1) (hh5 ++ [AObj.row [I i] true]) (by kernel_rfl) (by kernel_rfl) (by simp [abuildSlice, ti40, ti3, zerosOf, afill, splice, isCell, Value.cells, isData]) ?_
        refine Run 1000 ?_
        refine App 40 40 v (.slice (some ⟨hh5.length, 0, some 1⟩) 1 1) v6 h6 (by kernel_rfl) (by kernel_rfl) Tryd.underlying40 (by simp) e6 ?_
        refine Run 1000 ?_
        refine Fin_goto (lpN Tryd.f55 0) h6 [(0, I n), (1, .slice a L.length kk), (2, .string s), (4, .pointer (some ⟨q, 0, none⟩)), (7, v6), (10, I n), (11, I (IntKind.wrap .i64 ((i : Int) + 1)))] (by kernel_rfl) (by kernel_rfl) (by kernel_rfl) (fun f' hf' => ?_)
        rw [wrap_next hlt (by omega)] at hf'
        have := ih (i + 1) (out ++ [(i : Int)]) v6 f' h6 (by omega) (by simp; omega) A6 hf'
        simpa using this
      | false =>
        refine Fin_cB false (by kernel_rfl) ?_
        refine Run 1000 ?_
        refine Fin_goto (lpN Tryd.f55 0) hh5 [(0, I n), (1, .slice a L.length kk), (2, .string s), (4, .pointer (some ⟨q, 0, none⟩)), (7, v), (10, I n), (11, I (IntKind.wrap .i64 ((i : Int) + 1)))] (by kernel_rfl) (by kernel_rfl) (by kernel_rfl) (fun f' hf' => ?_)
        rw [wrap_next hlt (by omega)] at hf'
        have := ih (i + 1) out v f' hh5 (by omega) (by omega) (A.more G2) hf'
        simpa using this
    · rw [decide_eq_false (show ¬0 < M.length by omega), Bool.false_and]
      refine Run 1000 ?_
      refine Fin_cB false (by kernel_rfl) ?_
      refine Run 1000 ?_
      refine Fin_goto (lpN Tryd.f55 0) hh2 [(0, I n), (1, .slice a L.length kk), (2, .string s), (4, .pointer (some ⟨q, 0, none⟩)), (7, v), (10, I n), (11, I (IntKind.wrap .i64 ((i : Int) + 1)))] (by kernel_rfl) (by kernel_rfl) (by kernel_rfl) (fun f' hf' => ?_)
      rw [wrap_next hlt (by omega)] at hf'
      have := ih (i + 1) out v f' hh2 (by omega) (by omega) (A.more G2) hf'
      simpa using this
/-- What 'reads' answers. -/
def readsF (n : Nat) (L : List ByteArray) (s : ByteArray) : List Int := readsG n L s 0
theorem AccI.weak {h h1 h' : AHeap} {v : Value} {L : List Int} (A : AccI h1 h' v L) (g : Grew h h1) : AccI h h' v L := by
  obtain ⟨g, rfl⟩ := g
  have hl := A.le
  simp at hl
  refine ⟨by omega, fun j hj => ?_, ?_⟩
  · rw [A.old j (by simp; omega), List.getElem?_append_left hj]
  · rcases A.val with hh | ⟨b, hb, e, hr⟩
    · exact Or.inl hh
    · exact Or.inr ⟨b, by simp at hb; omega, e, hr⟩
theorem reads_spec {X : Ext} (x : ReadX X) (h : AHeap) (a : Option Addr) (kk : Nat) (L : List ByteArray) (hL : L.length < 1000000) (hs0 : Strs h a L) (s : ByteArray) (hs : s.size < 1000000) (n : Nat) (hn1 : 1 ≤ n) (hn : n ≤ 1000) :
    Ca Tryd.prog X (.fn 55) [I n, .slice a L.length kk, .string s] h (fun v h' => AccI h h' v (readsF n L s)) := by
  refine Ca_fn (fn := Tryd.f55) (c := Tryd.f55.body.getD .skip) x.rd (by kernel_rfl) (by kernel_rfl) (by kernel_rfl) ?_
  refine Run 1000 ?_
  refine Box (.slice a L.length kk) (by kernel_rfl) (by kernel_rfl) rfl ?_
  refine Run 1000 ?_
  refine Fin_goto (lpN Tryd.f55 0) (h ++ [AObj.row [Value.slice a L.length kk] true]) [(0, I n), (1, .slice a L.length kk), (2, .string s), (4, .pointer (some ⟨h.length, 0, none⟩)), (7, .slice none 0 0), (10, I n), (11, I (0 : Nat))] (by kernel_rfl) (by kernel_rfl) (by kernel_rfl) (fun f' hf' => ?_)
  refine (reads_loop x _ a kk L hL (hs0.grow ⟨_, rfl⟩) s hs n hn1 hn h.length (by simp) n 0 [] _ f' _ (by omega) (by simp) (AccI.nil _) hf').imp fun e y ⟨he, v, hv, A⟩ => ⟨he, v, hv, A.weak ⟨_, rfl⟩⟩
end Go.Proofs.YtpbmpdocgplhpaaDoor

/-
  flag.Reads and Cut; the reference's Pieces and Reads.
-/
set_option linter.unusedSimpArgs false
set_option linter.unusedVariables false
set_option maxRecDepth 100000
namespace Go.Proofs.YtpbmpdocgplhpaaDoor
open Go Go.AM

theorem readsOf_spec {X : Ext} (hX : X 24 = none) (hX49 : X 49 = none) (x : ReadX X) (o : OverX X) (k n : Nat) (hin : inRange k n = true) (h : AHeap) (a : Option Addr) (kk : Nat) (L : List ByteArray) (hL : L.length < 1000000) (hst : Strs h a L) (hc : codeF k n L = true) (s : ByteArray) (hs : s.size < 1000000) :
    Ca Tryd.prog X (.fn 24) [I k, I n, .slice a L.length kk, .string s] h (fun v h' => ∃ v1, v = .tuple #[v1, I (bif streamOK k s then 0 else 1)] ∧ AccI h h' v1 (bif streamOK k s then readsF n L s else [])) := by
  obtain ⟨i1, i2, i3, i4⟩ := inRange_iff.1 hin
  refine Ca_fn (fn := Tryd.f24) (c := Tryd.f24.body.getD .skip) hX (by kernel_rfl) (by kernel_rfl) (by kernel_rfl) ?_
  refine Run 1000 ?_
  refine Fin_call 54 [I k, I n, .slice a L.length kk, .string s] (by kernel_rfl) (by kernel_rfl) (stream_spec x.s hX49 x.r o k n hin h a kk L hL hst hc s hs) (fun v1 hh1 hv1 => ?_)
  obtain ⟨rfl, G1⟩ := hv1
  cases hok : streamOK k s with
  | false =>
    refine RunA 1000 1 ?_
    exact Fin_r (by kernel_rfl) ⟨Or.inr rfl, .tuple #[.slice none 0 0, I 1], by kernel_rfl, _, rfl, (AccI.nil h).more G1⟩
  | true =>
    refine RunA 1000 1 ?_
    refine Fin_call 55 [I n, .slice a L.length kk, .string s] (by kernel_rfl) (by kernel_rfl) (reads_spec x hh1 a kk L hL (hst.grow G1) s hs n (by omega) (by omega)) (fun v3 hh3 hv3 => ?_)
    refine Run 1000 ?_
    exact Fin_r (by kernel_rfl) ⟨Or.inr rfl, .tuple #[v3, I 0], by kernel_rfl, _, rfl, hv3.weak G1⟩
/-- Whether a stream is read in one way, and its pieces. -/
def cutOK (n : Nat) (L : List ByteArray) (k : Nat) (s : ByteArray) : Bool := streamOK k s && (readsF n L s).length == 1
def cutF (n : Nat) (L : List ByteArray) (k : Nat) (s : ByteArray) : List ByteArray := bif cutOK n L k s then piecesF s n ((readsF n L s).headD 0).toNat else []
theorem Acc.weak {h h1 h' : AHeap} {v : Value} {L : List ByteArray} (A : Acc h1 h' v L) (g : Grew h h1) : Acc h h' v L := by
  obtain ⟨g, rfl⟩ := g
  have hl := A.le
  simp at hl
  refine ⟨by omega, fun j hj => ?_, ?_⟩
  · rw [A.old j (by simp; omega), List.getElem?_append_left hj]
  · rcases A.val with hh | ⟨b, hb, e, hr⟩
    · exact Or.inl hh
    · exact Or.inr ⟨b, by simp at hb; omega, e, hr⟩
theorem readsF_mem {n : Nat} {L : List ByteArray} {s : ByteArray} {z : Int} (h : z ∈ readsF n L s) : ∃ i : Nat, z = i ∧ i < n ∧ okAt n L s i = true := by
  unfold readsF readsG at h
  rw [List.mem_map] at h
  obtain ⟨i, hi, rfl⟩ := h
  rw [List.mem_filter, List.mem_range'_1] at hi
  exact ⟨i, rfl, by omega, hi.2⟩
theorem cutOf_spec {X : Ext} (hX : X 25 = none) (hX49 : X 49 = none) (x : ReadX X) (o : OverX X) (k n : Nat) (hin : inRange k n = true) (h : AHeap) (a : Option Addr) (kk : Nat) (L : List ByteArray) (hL : L.length < 1000000) (hst : Strs h a L) (hc : codeF k n L = true) (s : ByteArray) (hs : s.size < 1000000) :
    Ca Tryd.prog X (.fn 25) [I k, I n, .slice a L.length kk, .string s] h (fun v h' => ∃ v1, v = .tuple #[v1, .bool (cutOK n L k s), I (bif streamOK k s then 0 else 1)] ∧ Acc h h' v1 (cutF n L k s)) := by
  obtain ⟨i1, i2, i3, i4⟩ := inRange_iff.1 hin
  refine Ca_fn (fn := Tryd.f25) (c := Tryd.f25.body.getD .skip) hX (by kernel_rfl) (by kernel_rfl) (by kernel_rfl) ?_
  refine Run 1000 ?_
  refine Fin_call 54 [I k, I n, .slice a L.length kk, .string s] (by kernel_rfl) (by kernel_rfl) (stream_spec x.s hX49 x.r o k n hin h a kk L hL hst hc s hs) (fun v1 hh1 hv1 => ?_)
  obtain ⟨rfl, G1⟩ := hv1
  unfold cutF cutOK
  cases hok : streamOK k s with
  | false =>
    refine RunA 1000 1 ?_
    exact Fin_r (by kernel_rfl) ⟨Or.inr rfl, .tuple #[.slice none 0 0, .bool false, I 1], by kernel_rfl, _, rfl, (Acc.nil h).more G1⟩
  | true =>
    refine RunA 1000 1 ?_
    refine Fin_call 55 [I n, .slice a L.length kk, .string s] (by kernel_rfl) (by kernel_rfl) (reads_spec x hh1 a kk L hL (hst.grow G1) s hs n (by omega) (by omega)) (fun v3 hh3 hv3 => ?_)
    obtain ⟨M, eM⟩ : ∃ M, M = readsF n L s := ⟨_, rfl⟩
    have hmem : ∀ z ∈ M, ∃ i : Nat, z = i ∧ i < n ∧ okAt n L s i = true := fun z hz => readsF_mem (eM ▸ hz)
    rw [← eM] at hv3 ⊢
    obtain ⟨a3, k3, rfl⟩ := hv3.shape
    refine Run 1000 ?_
    refine Fin_c2 (!((M.length : Int) == 1)) (by kernel_rfl) (fun h5 => ?_) (fun h5 => ?_)
    · have e : (M.length == 1) = false := by
        rw [Bool.eq_false_iff]; intro hh; rw [beq_iff_eq] at hh; rw [hh] at h5; exact absurd h5 (by decide)
      rw [e]
      refine Run 1000 ?_
      exact Fin_r (by kernel_rfl) ⟨Or.inr rfl, .tuple #[.slice none 0 0, .bool false, I 0], by kernel_rfl, _, rfl, (Acc.nil h).more (G1.trans hv3.grew)⟩
    · have e : M.length = 1 := by
        have h6 : ((M.length : Int) == 1) = true := by cases hh : ((M.length : Int) == 1) <;> simp_all
        have := beq_iff_eq.1 h6; omega
      obtain ⟨b, eb, hb, hget⟩ := hv3.load 0 (by omega)
      obtain ⟨z, rfl⟩ : ∃ z, M = [z] := by
        match M, e with
        | [z], _ => exact ⟨z, rfl⟩
      obtain ⟨i, rfl, hi, hoki⟩ := hmem z (by simp)
      simp only [Value.slice.injEq] at eb
      obtain ⟨rfl, _, rfl⟩ := eb
      refine Run 1000 ?_
      refine IdxA 40 b 0 1 1 ([(i : Int)].length + 1) .i64 0 (by kernel_rfl) (by kernel_rfl) ti40 rfl ti3 rfl (by omega) (by omega) ?_
      refine Run 1000 ?_
      refine Load 3 (.pointer (some ⟨b, 0 + (0 : Int).toNat * 1, none⟩)) (I i) (by kernel_rfl) (by kernel_rfl) (load_row ti3 rfl hb (by simpa using hget)) ?_
      refine Run 1000 ?_
      refine Fin_call 56 [.string s, I i, I n] (by kernel_rfl) (by kernel_rfl) (pieces_spec x.p s hs n (by omega) (by omega) i (by omega) hh3) (fun v8 hh8 hv8 => ?_)
      refine Run 1000 ?_
      exact Fin_r (by kernel_rfl) ⟨Or.inr rfl, .tuple #[v8, .bool true, I 0], by kernel_rfl, _, rfl, hv8.weak (G1.trans hv3.grew)⟩

theorem rpcs_loop {X : Ext} (hX57 : X 57 = none) (h0 : AHeap) (a : Option Addr) (kk : Nat) (L : List ByteArray) (hL : L.length < 1000000) (hst : Strs h0 a L) (s : ByteArray) (hs : s.size < 1000000) (n : Nat) (hn1 : 1 ≤ n) (hn : n ≤ 1000) :
    ∀ (t p : Nat) (f : Nat → Value) (h : AHeap) (v : Value) (out : List ByteArray), s.size < p + t → p < 2000000 → out.length ≤ p → Acc h0 h v out → Knows f [(0, I n), (1, .slice a L.length kk), (2, .string s), (10, v), (11, I p)] →
    Fin Tryd.prog X none Tryd.f28.ntmps (lpN Tryd.f28 0) .normal ⟨f, h⟩ (fun e y => (e = .normal ∨ e = .ret) ∧ ∃ w, fresults Tryd.prog Tryd.f28.results.toList y = some w ∧ ∃ v1, w = .tuple #[v1, .bool ((pcs s n t p).all (fun w => isIn w L) && decide (0 < (out ++ pcs s n t p).length))] ∧
      Acc h0 y.h v1 (bif (pcs s n t p).all (fun w => isIn w L) then out ++ pcs s n t p else [])) := by
  intro t
  induction t with
  | zero =>
    intro p f h v out hp hp2 ho A hf
    have hw : IntKind.wrap .i64 ((p : Int) + n) = ((p + n : Nat) : Int) := by rw [wrap_small (by omega) (by omega)]; simp
    obtain ⟨a1, k1, rfl, _⟩ := A.as_strs
    refine Fin_known _ hf ?_
    refine Fin_unrl ?_
    refine Run 1000 ?_
    refine Fin_c (IntKind.wrap .i64 ((p : Int) + n) ≤ s.size) (by kernel_rfl) (fun h1 => by omega) (fun h1 => ?_)
    refine Run 1000 ?_
    refine Fin_r (by kernel_rfl) ⟨Or.inr rfl, .tuple #[.slice a1 out.length k1, .bool (decide ((out.length : Int) > 0))], by kernel_rfl, _, ?_, by simpa [pcs] using A⟩
    simp only [pcs, List.all_nil, List.append_nil, Bool.true_and]
    congr 5
    rw [decide_eq_decide]; omega
  | succ t ih =>
    intro p f h v out hp hp2 ho A hf
    have hw : IntKind.wrap .i64 ((p : Int) + n) = ((p + n : Nat) : Int) := by rw [wrap_small (by omega) (by omega)]; simp
    refine Fin_known _ hf ?_
    refine Fin_unrl ?_
    refine Run 1000 ?_
    refine Fin_c (IntKind.wrap .i64 ((p : Int) + n) ≤ s.size) (by kernel_rfl) (fun h1 => ?_) (fun h1 => ?_)
    · have hle : p + n ≤ s.size := by omega
      have hsl : aslice Tryd.prog 9 (.string s) (some (I p)) (some (I (IntKind.wrap .i64 ((p : Int) + n)))) none = some (.string (s.extract p (p + n))) := by rw [hw]; exact slice_both s p (p + n) (by omega) hle
      simp only [pcs, if_pos hle, List.all_cons]
      refine Run 1000 ?_
      refine Slic 9 (.string s) (.string (s.extract p (p + n))) (some (I p)) (some (I (IntKind.wrap .i64 ((p : Int) + n)))) none (by kernel_rfl) (by kernel_rfl) hsl ?_
      refine Run 1000 ?_
      have hhas := has_spec hX57 h a kk L (s.extract p (p + n)) (by omega) (hst.grow A.grew)
      rw [isIn_has] at hhas
      refine Fin_call 57 [.slice a L.length kk, .string (s.extract p (p + n))] (by kernel_rfl) (by kernel_rfl) hhas (fun v5 hh5 hv5 => ?_)
      obtain ⟨rfl, rfl⟩ := hv5
      cases hin : isIn (s.extract p (p + n)) L with
      | false =>
        refine RunA 1000 1 ?_
        refine Fin_r (by kernel_rfl) ⟨Or.inr rfl, .tuple #[.slice none 0 0, .bool false], by kernel_rfl, _, by simp, (Acc.nil h0).more A.grew⟩
      | true =>
        obtain ⟨v2, h2, e2, A2, _, _⟩ := A.app (s.extract p (p + n)) (by omega)
        refine RunA 1000 1 ?_
        refine Slic 9 (.string s) (.string (s.extract p (p + n))) (some (I p)) (some (I (IntKind.wrap .i64 ((p : Int) + n)))) none (by kernel_rfl) (by kernel_rfl) hsl ?_
        refine Run 1000 ?_
        refine Bld 22 1 [(0, .string (s.extract p (p + n)))] (.slice (some ⟨hh5.length, 0, some 1⟩) 1 1) (hh5 ++ [AObj.row [Value.string (s.extract p (p + n))] true]) (by kernel_rfl) (by kernel_rfl) (by simp [abuildSlice, ti22, ti9, zerosOf, afill, splice, isCell, Value.cells, isData]) ?_
        refine Run 1000 ?_
        refine App 22 22 v (.slice (some ⟨hh5.length, 0, some 1⟩) 1 1) v2 h2 (by kernel_rfl) (by kernel_rfl) Tryd.underlying22 (by simp) e2 ?_
        refine Run 1000 ?_
        refine Fin_goto (lpN Tryd.f28 0) h2 [(0, I n), (1, .slice a L.length kk), (2, .string s), (10, v2), (11, I (IntKind.wrap .i64 ((p : Int) + n)))] (by kernel_rfl) (by kernel_rfl) (by kernel_rfl) (fun f' hf' => ?_)
        rw [hw] at hf'
        have := ih (p + n) f' h2 v2 (out ++ [s.extract p (p + n)]) (by omega) (by omega) (by simp; omega) A2 hf'
        simpa using this
    · obtain ⟨a1, k1, rfl, _⟩ := A.as_strs
      refine Run 1000 ?_
      refine Fin_r (by kernel_rfl) ⟨Or.inr rfl, .tuple #[.slice a1 out.length k1, .bool (decide ((out.length : Int) > 0))], by kernel_rfl, _, ?_, by simpa [pcs, show ¬p + n ≤ s.size by omega] using A⟩
      simp only [pcs, if_neg (show ¬p + n ≤ s.size by omega), List.all_nil, List.append_nil, Bool.true_and]
      congr 5
      rw [decide_eq_decide]; omega
theorem rpieces_spec {X : Ext} (hX : X 28 = none) (hX57 : X 57 = none) (h : AHeap) (a : Option Addr) (kk : Nat) (L : List ByteArray) (hL : L.length < 1000000) (hst : Strs h a L) (s : ByteArray) (hs : s.size < 1000000) (n : Nat) (hn1 : 1 ≤ n) (hn : n ≤ 1000) (p : Nat) (hp : p < 1000000) :
    Ca Tryd.prog X (.fn 28) [I n, .slice a L.length kk, .string s, I p] h (fun v h' => ∃ v1, v = .tuple #[v1, .bool (okAt n L s p)] ∧ Acc h h' v1 (bif (piecesF s n p).all (fun w => isIn w L) then piecesF s n p else [])) := by
  refine Ca_fn (fn := Tryd.f28) (c := Tryd.f28.body.getD .skip) hX (by kernel_rfl) (by kernel_rfl) (by kernel_rfl) ?_
  refine Run 1000 ?_
  refine Fin_goto (lpN Tryd.f28 0) h [(0, I n), (1, .slice a L.length kk), (2, .string s), (10, .slice none 0 0), (11, I p)] (by kernel_rfl) (by kernel_rfl) (by kernel_rfl) (fun f' hf' => ?_)
  refine (rpcs_loop hX57 h a kk L hL hst s hs n hn1 hn (s.size + 1) p f' h _ [] (by omega) (by omega) (by simp) (Acc.nil h) hf').imp fun e y ⟨he, w, hw, v1, e1, A1⟩ => ⟨he, w, hw, v1, ?_, by simpa [piecesF] using A1⟩
  rw [e1, Bool.and_comm]
  rfl
theorem rreads_loop {X : Ext} (hX28 : X 28 = none) (hX57 : X 57 = none) (h0 : AHeap) (a : Option Addr) (kk : Nat) (L : List ByteArray) (hL : L.length < 1000000) (hs0 : Strs h0 a L) (s : ByteArray) (hs : s.size < 1000000) (n : Nat) (hn1 : 1 ≤ n) (hn : n ≤ 1000) :
    ∀ (t i : Nat) (out : List Int) (v : Value) (f : Nat → Value) (h : AHeap), i + t = n → out.length ≤ i → AccI h0 h v out → Knows f [(0, I n), (1, .slice a L.length kk), (2, .string s), (7, v), (8, I i)] →
    Fin Tryd.prog X none Tryd.f27.ntmps (lpN Tryd.f27 0) .normal ⟨f, h⟩ (fun e y => (e = .normal ∨ e = .ret) ∧ ∃ v, fresults Tryd.prog Tryd.f27.results.toList y = some v ∧ AccI h0 y.h v (out ++ readsG n L s i)) := by
  intro t
  induction t with
  | zero =>
    intro i out v f h hi ho A hf
    obtain rfl : i = n := by omega
    refine Fin_known _ hf ?_
    refine Fin_unrl ?_
    refine Run 1000 ?_
    refine Fin_c ((i : Int) < i) (by kernel_rfl) (fun h1 => by omega) (fun h2 => ?_)
    refine Run 1000 ?_
    refine Fin_r (by kernel_rfl) ⟨Or.inr rfl, v, by kernel_rfl, ?_⟩
    rw [readsG_end, List.append_nil]; exact A
  | succ t ih =>
    intro i out v f h hi ho A hf
    have hlt : i < n := by omega
    have G := A.grew
    rw [readsG_step n L s i hlt]
    refine Fin_known _ hf ?_
    refine Fin_unrl ?_
    refine Run 1000 ?_
    refine Fin_c ((i : Int) < n) (by kernel_rfl) (fun h1 => ?_) (fun h2 => by omega)
    refine Run 1000 ?_
    refine Fin_call 28 [I n, .slice a L.length kk, .string s, I i] (by kernel_rfl) (by kernel_rfl) (rpieces_spec hX28 hX57 h a kk L hL (hs0.grow G) s hs n hn1 hn i (by omega)) (fun v2 hh2 hv2 => ?_)
    obtain ⟨v1, rfl, A1⟩ := hv2
    have G2 : Grew h hh2 := A1.grew
    cases hok : okAt n L s i with
    | true =>
      obtain ⟨v6, h6, e6, A6, _, _⟩ := (A.more G2).app i (by omega)
      refine RunA 1000 1 ?_
      refine Bld 40 1 [(0, I i)] (.slice (some ⟨hh2.length, 0, some 1⟩) 1 1) (hh2 ++ [AObj.row [I i] true]) (by kernel_rfl) (by kernel_rfl) (by simp [abuildSlice, ti40, ti3, zerosOf, afill, splice, isCell, Value.cells, isData]) ?_
      refine Run 1000 ?_
      refine App 40 40 v (.slice (some ⟨hh2.length, 0, some 1⟩) 1 1) v6 h6 (by kernel_rfl) (by kernel_rfl) Tryd.underlying40 (by simp) e6 ?_
      refine Run 1000 ?_
      refine Fin_goto (lpN Tryd.f27 0) h6 [(0, I n), (1, .slice a L.length kk), (2, .string s), (7, v6), (8, I (IntKind.wrap .i64 ((i : Int) + 1)))] (by kernel_rfl) (by kernel_rfl) (by kernel_rfl) (fun f' hf' => ?_)
      rw [wrap_next hlt (by omega)] at hf'
      have := ih (i + 1) (out ++ [(i : Int)]) v6 f' h6 (by omega) (by simp; omega) A6 hf'
      simpa using this
    | false =>
      refine RunA 1000 1 ?_
      refine Fin_goto (lpN Tryd.f27 0) hh2 [(0, I n), (1, .slice a L.length kk), (2, .string s), (7, v), (8, I (IntKind.wrap .i64 ((i : Int) + 1)))] (by kernel_rfl) (by kernel_rfl) (by kernel_rfl) (fun f' hf' => ?_)
      rw [wrap_next hlt (by omega)] at hf'
      have := ih (i + 1) out v f' hh2 (by omega) (by omega) (A.more G2) hf'
      simpa using this
theorem rreads_spec {X : Ext} (hX : X 27 = none) (hX28 : X 28 = none) (hX57 : X 57 = none) (h : AHeap) (a : Option Addr) (kk : Nat) (L : List ByteArray) (hL : L.length < 1000000) (hs0 : Strs h a L) (s : ByteArray) (hs : s.size < 1000000) (n : Nat) (hn1 : 1 ≤ n) (hn : n ≤ 1000) :
    Ca Tryd.prog X (.fn 27) [I n, .slice a L.length kk, .string s] h (fun v h' => AccI h h' v (readsF n L s)) := by
  refine Ca_fn (fn := Tryd.f27) (c := Tryd.f27.body.getD .skip) hX (by kernel_rfl) (by kernel_rfl) (by kernel_rfl) ?_
  refine Run 1000 ?_
  refine Fin_goto (lpN Tryd.f27 0) h [(0, I n), (1, .slice a L.length kk), (2, .string s), (7, .slice none 0 0), (8, I (0 : Nat))] (by kernel_rfl) (by kernel_rfl) (by kernel_rfl) (fun f' hf' => ?_)
  exact rreads_loop hX28 hX57 h a kk L hL hs0 s hs n hn1 hn n 0 [] _ f' _ (by omega) (by simp) (AccI.nil _) hf'
end Go.Proofs.YtpbmpdocgplhpaaDoor
