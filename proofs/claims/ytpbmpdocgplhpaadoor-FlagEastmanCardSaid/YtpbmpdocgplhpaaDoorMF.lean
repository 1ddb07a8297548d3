/-
  MERGED BY PROGRAM out of the texts DecF Over Over2 Lett OwnWord.
-/
import Derived.Test.YtpbmpdocgplhpaaDoorMD
import Derived.Shelf.Unicode.DecodeLast
import Derived.Lib.TrimUEq
import Derived.Laws.RangeAny
import Derived.Test.YtpbmpdocgplhpaaDoorMV
import Derived.Test.YtpbmpdocgplhpaaDoorME

/-
  The last rune of a string: what is wanted of it here.
-/
set_option linter.unusedSimpArgs false
set_option linter.unusedVariables false
set_option maxRecDepth 100000
namespace Go.Proofs.YtpbmpdocgplhpaaDoor
open Go Go.AM

/-- The contract of the library's function: as its proved summary says. -/
def decC : List Value → AHeap → Option (Value × AHeap) := fun args h => match args with
  | [.string s] => if s.size ≤ 9223372036854775807 then some (.tuple #[.int .i32 (Lib.decodeLastL s.data.toList).1, .int .i64 (Lib.decodeLastL s.data.toList).2], h) else none
  | _ => none
theorem getD_byte (s : ByteArray) (i : Nat) (h : i < s.size) : s.data.toList.getD i 0 = s[i]'h := by
  rw [List.getD_eq_getElem?_getD, List.getElem?_eq_getElem (by rw [← Lib.size_eq]; exact h)]; rfl
theorem last_ascii (s : ByteArray) (n : Nat) (h : s.size = n + 1) (ha : (s[n]'(by omega)).toNat < 128) : Lib.decodeLastL s.data.toList = ((s[n]'(by omega)).toNat, 1) := by
  have hl : s.data.toList.length = n + 1 := by rw [← Lib.size_eq]; exact h
  unfold Lib.decodeLastL
  rw [if_neg (by intro e; rw [e] at hl; simp at hl), hl, Nat.add_sub_cancel, getD_byte s n (by omega), if_pos ha]
theorem last_high (s : ByteArray) (n : Nat) (h : s.size = n + 1) (ha : ¬(s[n]'(by omega)).toNat < 128) : 128 ≤ (Lib.decodeLastL s.data.toList).1 := by
  have hl : s.data.toList.length = n + 1 := by rw [← Lib.size_eq]; exact h
  have hne : ¬s.data.toList = [] := by intro e; rw [e] at hl; simp at hl
  have hlt := Lib.lastStart_lt s.data.toList hne
  unfold Lib.decodeLastL
  rw [if_neg hne, hl, Nat.add_sub_cancel, getD_byte s n (by omega), if_neg ha]
  simp only
  split
  · rename_i hd
    rw [Lib.decodeL_drop] at hd ⊢
    by_cases hp : (s[Lib.lastStart s.data.toList]'(by omega)).toNat < 128
    · rw [decode_ascii s _ (by omega) hp] at hd
      simp only at hd
      have : Lib.lastStart s.data.toList = n := by omega
      simp only [this] at hp
      exact absurd hp ha
    · exact (decode_high s _ (by omega) (by omega)).1
  · decide
theorem dec_ca {X : Ext} (hX : X 99 = some decC) (s : ByteArray) (hs : s.size < 1000000) (h : AHeap) :
    Ca Tryd.prog X (.fn 99) [.string s] h (fun v h' => v = .tuple #[.int .i32 (Lib.decodeLastL s.data.toList).1, .int .i64 (Lib.decodeLastL s.data.toList).2] ∧ h' = h) :=
  Ca_ext (c := decC) hX (by simp only [decC]; exact if_pos (by omega)) ⟨rfl, rfl⟩
end Go.Proofs.YtpbmpdocgplhpaaDoor

/-
  flag.cutLeft, cutRight and isOver.
-/
set_option linter.unusedSimpArgs false
set_option linter.unusedVariables false
set_option maxRecDepth 100000
namespace Go.Proofs.YtpbmpdocgplhpaaDoor
open Go Go.AM

def inL (k : Nat) (c : Nat) : Bool := (lettersL k).any fun d => (c : Int) == (d.toNat : Int)
theorem letters_low {k : Nat} {d : UInt8} (h : d ∈ lettersL k) : d.toNat < 128 := by
  have := List.mem_of_mem_take h
  simp only [List.mem_cons, List.not_mem_nil, or_false] at this
  rcases this with rfl | rfl | rfl | rfl <;> decide
theorem inL_byte (k : Nat) (b : UInt8) : inL k b.toNat = true ↔ b ∈ lettersL k := by
  unfold inL
  rw [List.any_eq_true]
  constructor
  · rintro ⟨d, hd, he⟩
    simp only [beq_iff_eq] at he
    have : b = d := UInt8.toNat_inj.1 (by omega)
    rw [this]; exact hd
  · intro h; exact ⟨b, h, by simp⟩
theorem inL_high {k c : Nat} (h : 128 ≤ c) : inL k c = false := by
  unfold inL
  rw [Bool.eq_false_iff]
  intro ha
  obtain ⟨d, hd, he⟩ := List.any_eq_true.1 ha
  have := letters_low hd
  simp only [beq_iff_eq] at he
  omega
theorem over_in89 {X : Ext} {Q : AExit → FS → Prop} (k : Nat) (hk : k ≤ 4) (h0 : AHeap) (s : ByteArray) (c : Nat) (A1 A2 : Value) (q r : Nat) (R : AObj) (hq : h0.length ≤ q) (hqr : r ≠ q)
    (K : ∀ f' h', Grew h0 h' → h'[r]? = some R → Knows f' [(0, .string s), (1, .string (gB (lettersL k))), (5, A1), (6, .int .i32 c), (7, .bool (inL k c)), (11, A2)] → Fin Tryd.prog X none Tryd.f89.ntmps (brk (lpN Tryd.f89 1)) .normal ⟨f', h'⟩ Q) :
    ∀ (t p : Nat) (b : Bool) (f : Nat → Value) (h : AHeap), p + t = k → h[q]? = some (AObj.siter (gB (lettersL k)) p) → b = ((lettersL k).take p).any (fun d => (c : Int) == (d.toNat : Int)) → Grew h0 h → h[r]? = some R →
    Knows f [(0, .string s), (1, .string (gB (lettersL k))), (5, A1), (6, .int .i32 c), (7, .bool b), (11, A2), (17, .pointer (some ⟨q, 0, none⟩))] → Fin Tryd.prog X none Tryd.f89.ntmps (lpN Tryd.f89 1) .normal ⟨f, h⟩ Q := by
  have hsz := letters_size k hk
  have hll : (lettersL k).length = k := by rw [← gB_size]; exact hsz
  intro t
  induction t with
  | zero =>
    intro p b f h hp hit hb hG hR hf
    have hbe : b = inL k c := by rw [hb, List.take_of_length_le (by omega)]; rfl
    refine Fin_known _ hf ?_
    refine Fin_unrl ?_
    refine Run 1000 ?_
    refine Nxt q (gB (lettersL k)) p (by kernel_rfl) (by kernel_rfl) hit (fun hlt => by omega) (fun _ => ?_)
    refine Run 1000 ?_
    refine Fin_cB false (by kernel_rfl) ?_
    refine Esc (brk (lpN Tryd.f89 1)) h [(0, .string s), (1, .string (gB (lettersL k))), (5, A1), (6, .int .i32 c), (7, .bool b), (11, A2)] (by kernel_rfl) rfl (by kernel_rfl) (fun f' hf' => ?_)
    rw [hbe] at hf'
    exact K f' h hG hR hf'
  | succ t ih =>
    intro p b f h hp hit hb hG hR hf
    obtain ⟨d, hd, hd4, hdec⟩ := letters_get k p hk (by omega)
    have hlt : p < (gB (lettersL k)).size := by omega
    obtain ⟨hd1, hd2⟩ := hdec hlt
    have htake : (lettersL k).take (p + 1) = (lettersL k).take p ++ [d] := by rw [List.take_add_one, hd]; rfl
    have hG2 := hG.set hq (AObj.siter (gB (lettersL k)) (p + 1))
    have hR2 : (h.set q (AObj.siter (gB (lettersL k)) (p + 1)))[r]? = some R := by rw [List.getElem?_set_ne (fun e => hqr e.symm)]; exact hR
    have hit2 : (h.set q (AObj.siter (gB (lettersL k)) (p + 1)))[q]? = some (AObj.siter (gB (lettersL k)) (p + 1)) := List.getElem?_set_self (lt_of_get hit)
    refine Fin_known _ hf ?_
    refine Fin_unrl ?_
    refine Run 1000 ?_
    refine Nxt q (gB (lettersL k)) p (by kernel_rfl) (by kernel_rfl) hit (fun _ => ?_) (fun hn => absurd hlt hn)
    rw [hd1, hd2]
    refine Run 1000 ?_
    refine Fin_cB true (by kernel_rfl) ?_
    refine Run 1000 ?_
    refine Fin_g2 b (by kernel_rfl) (by kernel_rfl) (fun hbt => ?_) (fun hbf => ?_)
    · refine Run 1000 ?_
      refine Fin_goto (lpN Tryd.f89 1) (h.set q (AObj.siter (gB (lettersL k)) (p + 1))) [(0, .string s), (1, .string (gB (lettersL k))), (5, A1), (6, .int .i32 c), (7, .bool true), (11, A2), (17, .pointer (some ⟨q, 0, none⟩))] (by kernel_rfl) (by kernel_rfl) (by kernel_rfl) (fun f' hf' => ?_)
      exact ih (p + 1) true f' _ (by omega) hit2 (by rw [htake, List.any_append, ← hb, hbt]; rfl) hG2 hR2 hf'
    · refine Run 1000 ?_
      refine Fin_goto (lpN Tryd.f89 1) (h.set q (AObj.siter (gB (lettersL k)) (p + 1))) [(0, .string s), (1, .string (gB (lettersL k))), (5, A1), (6, .int .i32 c), (7, .bool ((c : Int) == (d.toNat : Int))), (11, A2), (17, .pointer (some ⟨q, 0, none⟩))] (by kernel_rfl) (by kernel_rfl) (by kernel_rfl) (fun f' hf' => ?_)
      exact ih (p + 1) _ f' _ (by omega) hit2 (by rw [htake, List.any_append, ← hb, hbf]; simp) hG2 hR2 hf'
theorem over_in88 {X : Ext} {Q : AExit → FS → Prop} (k : Nat) (hk : k ≤ 4) (h0 : AHeap) (s : ByteArray) (c : Nat) (A1 A2 : Value) (q : Nat) (hq : h0.length ≤ q)
    (K : ∀ f' h', Grew h0 h' → Knows f' [(0, .string s), (1, .string (gB (lettersL k))), (5, .int .i32 c), (6, A1), (7, .bool (inL k c)), (11, A2)] → Fin Tryd.prog X none Tryd.f88.ntmps (brk (lpN Tryd.f88 1)) .normal ⟨f', h'⟩ Q) :
    ∀ (t p : Nat) (b : Bool) (f : Nat → Value) (h : AHeap), p + t = k → h[q]? = some (AObj.siter (gB (lettersL k)) p) → b = ((lettersL k).take p).any (fun d => (c : Int) == (d.toNat : Int)) → Grew h0 h →
    Knows f [(0, .string s), (1, .string (gB (lettersL k))), (5, .int .i32 c), (6, A1), (7, .bool b), (11, A2), (19, .pointer (some ⟨q, 0, none⟩))] → Fin Tryd.prog X none Tryd.f88.ntmps (lpN Tryd.f88 1) .normal ⟨f, h⟩ Q := by
  have hsz := letters_size k hk
  have hll : (lettersL k).length = k := by rw [← gB_size]; exact hsz
  intro t
  induction t with
  | zero =>
    intro p b f h hp hit hb hG hf
    have hbe : b = inL k c := by rw [hb, List.take_of_length_le (by omega)]; rfl
    refine Fin_known _ hf ?_
    refine Fin_unrl ?_
    refine Run 1000 ?_
    refine Nxt q (gB (lettersL k)) p (by kernel_rfl) (by kernel_rfl) hit (fun hlt => by omega) (fun _ => ?_)
    refine Run 1000 ?_
    refine Fin_cB false (by kernel_rfl) ?_
    refine Esc (brk (lpN Tryd.f88 1)) h [(0, .string s), (1, .string (gB (lettersL k))), (5, .int .i32 c), (6, A1), (7, .bool b), (11, A2)] (by kernel_rfl) rfl (by kernel_rfl) (fun f' hf' => ?_)
    rw [hbe] at hf'
    exact K f' h hG hf'
  | succ t ih =>
    intro p b f h hp hit hb hG hf
    obtain ⟨d, hd, hd4, hdec⟩ := letters_get k p hk (by omega)
    have hlt : p < (gB (lettersL k)).size := by omega
    obtain ⟨hd1, hd2⟩ := hdec hlt
    have htake : (lettersL k).take (p + 1) = (lettersL k).take p ++ [d] := by rw [List.take_add_one, hd]; rfl
    have hG2 := hG.set hq (AObj.siter (gB (lettersL k)) (p + 1))
    have hit2 : (h.set q (AObj.siter (gB (lettersL k)) (p + 1)))[q]? = some (AObj.siter (gB (lettersL k)) (p + 1)) := List.getElem?_set_self (lt_of_get hit)
    refine Fin_known _ hf ?_
    refine Fin_unrl ?_
    refine Run 1000 ?_
    refine Nxt q (gB (lettersL k)) p (by kernel_rfl) (by kernel_rfl) hit (fun _ => ?_) (fun hn => absurd hlt hn)
    rw [hd1, hd2]
    refine Run 1000 ?_
    refine Fin_cB true (by kernel_rfl) ?_
    refine Run 1000 ?_
    refine Fin_g2 b (by kernel_rfl) (by kernel_rfl) (fun hbt => ?_) (fun hbf => ?_)
    · refine Run 1000 ?_
      refine Fin_goto (lpN Tryd.f88 1) (h.set q (AObj.siter (gB (lettersL k)) (p + 1))) [(0, .string s), (1, .string (gB (lettersL k))), (5, .int .i32 c), (6, A1), (7, .bool true), (11, A2), (19, .pointer (some ⟨q, 0, none⟩))] (by kernel_rfl) (by kernel_rfl) (by kernel_rfl) (fun f' hf' => ?_)
      exact ih (p + 1) true f' _ (by omega) hit2 (by rw [htake, List.any_append, ← hb, hbt]; rfl) hG2 hf'
    · refine Run 1000 ?_
      refine Fin_goto (lpN Tryd.f88 1) (h.set q (AObj.siter (gB (lettersL k)) (p + 1))) [(0, .string s), (1, .string (gB (lettersL k))), (5, .int .i32 c), (6, A1), (7, .bool ((c : Int) == (d.toNat : Int))), (11, A2), (19, .pointer (some ⟨q, 0, none⟩))] (by kernel_rfl) (by kernel_rfl) (by kernel_rfl) (fun f' hf' => ?_)
      exact ih (p + 1) _ f' _ (by omega) hit2 (by rw [htake, List.any_append, ← hb, hbf]; simp) hG2 hf'
end Go.Proofs.YtpbmpdocgplhpaaDoor

/-
  flag.cutLeft, cutRight and isOver, whole.
-/
set_option linter.unusedSimpArgs false
set_option linter.unusedVariables false
set_option maxRecDepth 100000
namespace Go.Proofs.YtpbmpdocgplhpaaDoor
open Go Go.AM

/-- What is left of a string without its first letters. -/
def LeftOf (k : Nat) (s r : ByteArray) : Prop := (r = ByteArray.empty ∧ ∀ i (h : i < s.size), s[i]'h ∈ lettersL k) ∨ ∃ i, ∃ h : i < s.size, r = s.extract i s.size ∧ s[i]'h ∉ lettersL k

theorem left_out {X : Ext} (k : Nat) (hk : k ≤ 4) (h0 : AHeap) (s : ByteArray) (hs : s.size < 1000000) (r : Nat) (hr0 : h0.length ≤ r) :
    ∀ (t i : Nat) (f : Nat → Value) (h : AHeap), i + t = s.size → Grew h0 h → h[r]? = some (AObj.siter s i) → (∀ j (hj : j < s.size), j < i → s[j]'hj ∈ lettersL k) →
    Knows f [(0, .string s), (1, .string (gB (lettersL k))), (11, .pointer (some ⟨r, 0, none⟩))] →
    Fin Tryd.prog X none Tryd.f89.ntmps (lpN Tryd.f89 0) .normal ⟨f, h⟩ (fun e y => (e = .normal ∨ e = .ret) ∧ ∃ v, fresults Tryd.prog Tryd.f89.results.toList y = some v ∧ (∃ q, v = .string q ∧ LeftOf k s q) ∧ Grew h0 y.h) := by
  intro t
  induction t with
  | zero =>
    intro i f h hi hG hr hall hf
    refine Fin_known _ hf ?_
    refine Fin_unrl ?_
    refine Run 1000 ?_
    refine Nxt r s i (by kernel_rfl) (by kernel_rfl) hr (fun hlt => by omega) (fun _ => ?_)
    refine Run 1000 ?_
    refine Fin_cB false (by kernel_rfl) ?_
    refine Run 1000 ?_
    exact Fin_r (by kernel_rfl) ⟨Or.inr rfl, .string ByteArray.empty, by kernel_rfl, ⟨_, rfl, Or.inl ⟨rfl, fun j hj => hall j hj (by omega)⟩⟩, hG⟩
  | succ t ih =>
    intro i f h hi hG hr hall hf
    have hlt : i < s.size := by omega
    obtain ⟨c, w, hcw⟩ : ∃ c w, Utf8.decode s i = (c, w) := ⟨_, _, rfl⟩
    have hrl := lt_of_get hr
    have hr1 : (h.set r (AObj.siter s (i + w)))[r]? = some (AObj.siter s (i + w)) := List.getElem?_set_self hrl
    have hlen1 : (h.set r (AObj.siter s (i + w))).length = h.length := by simp
    refine Fin_known _ hf ?_
    refine Fin_unrl ?_
    refine Run 1000 ?_
    refine Nxt r s i (by kernel_rfl) (by kernel_rfl) hr (fun _ => ?_) (fun hn => absurd hlt hn)
    rw [hcw]
    refine Run 1000 ?_
    refine Fin_cB true (by kernel_rfl) ?_
    refine Run 1000 ?_
    refine Rng 9 (gB (lettersL k)) (by kernel_rfl) (by kernel_rfl) Tryd.underlying9 ?_
    refine Run 1000 ?_
    refine Fin_goto (lpN Tryd.f89 1) (h.set r (AObj.siter s (i + w)) ++ [AObj.siter (gB (lettersL k)) 0]) [(0, .string s), (1, .string (gB (lettersL k))), (5, I i), (6, .int .i32 c), (7, .bool false), (11, .pointer (some ⟨r, 0, none⟩)), (17, .pointer (some ⟨(h.set r (AObj.siter s (i + w))).length, 0, none⟩))] (by kernel_rfl) (by kernel_rfl) (by kernel_rfl) (fun f1 hf1 => ?_)
    have hG1 : Grew h0 (h.set r (AObj.siter s (i + w)) ++ [AObj.siter (gB (lettersL k)) 0]) := (hG.set hr0 _).trans ⟨_, rfl⟩
    have hh := hG.le
    refine over_in89 k hk h0 s c (I i) (.pointer (some ⟨r, 0, none⟩)) (h.set r (AObj.siter s (i + w))).length r (AObj.siter s (i + w)) (by omega) (by omega) (fun f2 h2 hG2 hr2 hf2 => ?_) k 0 false f1 _ (by omega) (by simp) (by simp) hG1 (by rw [List.getElem?_append_left (by omega)]; exact hr1) hf1
    refine Fin_known _ hf2 ?_
    refine Run 1000 ?_
    refine Fin_cB (!(inL k c)) (by kernel_rfl) ?_
    by_cases hb : (s[i]'hlt).toNat < 128
    · have hd := decode_ascii s i hlt hb
      rw [hcw] at hd
      simp only [Prod.mk.injEq] at hd
      obtain ⟨rfl, rfl⟩ := hd
      cases hin : inL k (s[i]'hlt).toNat with
      | true =>
        refine Run 1000 ?_
        refine Fin_goto (lpN Tryd.f89 0) h2 [(0, .string s), (1, .string (gB (lettersL k))), (11, .pointer (some ⟨r, 0, none⟩))] (by kernel_rfl) (by kernel_rfl) (by kernel_rfl) (fun f3 hf3 => ?_)
        refine ih (i + 1) f3 h2 (by omega) hG2 hr2 (fun j hj hj2 => ?_) hf3
        by_cases e : j = i
        · subst e; exact (inL_byte k _).1 hin
        · exact hall j hj (by omega)
      | false =>
        refine Run 1000 ?_
        refine Slic 9 (.string s) (.string (s.extract i s.size)) (some (I i)) none none (by kernel_rfl) (by kernel_rfl) (slice_from s i (by omega)) ?_
        refine Run 1000 ?_
        refine Fin_r (by kernel_rfl) ⟨Or.inr rfl, .string (s.extract i s.size), by kernel_rfl, ⟨_, rfl, Or.inr ⟨i, hlt, rfl, ?_⟩⟩, hG2⟩
        intro hm; rw [(inL_byte k _).2 hm] at hin; simp at hin
    · have hhigh := (decode_high s i hlt (by omega)).1
      rw [hcw] at hhigh
      rw [inL_high hhigh]
      refine Run 1000 ?_
      refine Slic 9 (.string s) (.string (s.extract i s.size)) (some (I i)) none none (by kernel_rfl) (by kernel_rfl) (slice_from s i (by omega)) ?_
      refine Run 1000 ?_
      refine Fin_r (by kernel_rfl) ⟨Or.inr rfl, .string (s.extract i s.size), by kernel_rfl, ⟨_, rfl, Or.inr ⟨i, hlt, rfl, ?_⟩⟩, hG2⟩
      intro hm; exact hb (letters_low hm)
theorem left_spec {X : Ext} (hX : X 89 = none) (k : Nat) (hk : k ≤ 4) (s : ByteArray) (hs : s.size < 1000000) (h : AHeap) :
    Ca Tryd.prog X (.fn 89) [.string s, .string (gB (lettersL k))] h (fun v h' => (∃ q, v = .string q ∧ LeftOf k s q) ∧ Grew h h') := by
  refine Ca_fn (fn := Tryd.f89) (c := Tryd.f89.body.getD .skip) hX (by kernel_rfl) (by kernel_rfl) (by kernel_rfl) ?_
  refine Run 1000 ?_
  refine Rng 9 s (by kernel_rfl) (by kernel_rfl) Tryd.underlying9 ?_
  refine Run 1000 ?_
  refine Fin_goto (lpN Tryd.f89 0) (h ++ [AObj.siter s 0]) [(0, .string s), (1, .string (gB (lettersL k))), (11, .pointer (some ⟨h.length, 0, none⟩))] (by kernel_rfl) (by kernel_rfl) (by kernel_rfl) (fun f1 hf1 => ?_)
  exact left_out k hk h s hs h.length (Nat.le_refl _) s.size 0 f1 _ (by omega) ⟨_, rfl⟩ (by simp) (fun j hj h => by omega) hf1

theorem extract_zero (s : ByteArray) (n : Nat) (h0 : 0 < n) (h : n ≤ s.size) : ∃ hh, (s.extract 0 n)[0]'hh = s[0]'(by omega) := by
  have e : s.extract 0 n = gB (s.data.toList.take n) := by
    have := gB_extract s.data.toList 0 n
    rw [gB_of] at this
    simpa using this
  have hl : s.data.toList.length = s.size := (Lib.size_eq s).symm
  have hh : 0 < (s.extract 0 n).size := by rw [e, gB_size, List.length_take]; omega
  refine ⟨hh, ?_⟩
  have h1 : (s.extract 0 n).data.toList[0]? = s.data.toList[0]? := by
    rw [e, gB_list, List.getElem?_take, if_pos h0]
  have a1 : (s.extract 0 n).data.toList[0]? = some ((s.extract 0 n)[0]'hh) := List.getElem?_eq_getElem (by rw [← Lib.size_eq]; exact hh)
  have a2 : s.data.toList[0]? = some (s[0]'(by omega)) := List.getElem?_eq_getElem (by omega)
  rw [a1, a2] at h1
  exact Option.some.inj h1
theorem right_loop {X : Ext} (hX99 : X 99 = some decC) (k : Nat) (hk : k ≤ 4) (h0 : AHeap) :
    ∀ (t : Nat) (s : ByteArray) (f : Nat → Value) (h : AHeap) (hs : s.size = t + 1), s.size < 1000000 → Grew h0 h → s[0]'(by omega) ∉ lettersL k →
    Knows f [(0, .string s), (1, .string (gB (lettersL k)))] →
    Fin Tryd.prog X none Tryd.f88.ntmps (lpN Tryd.f88 0) .normal ⟨f, h⟩ (fun e y => (e = .normal ∨ e = .ret) ∧ ∃ v, fresults Tryd.prog Tryd.f88.results.toList y = some v ∧ (∃ q, v = .string q ∧ 0 < q.size) ∧ Grew h0 y.h) := by
  intro t
  induction t with
  | zero =>
    intro s f h hs hlim hG h0n hf
    obtain ⟨c, n, hcn⟩ : ∃ c n, Lib.decodeLastL s.data.toList = (c, n) := ⟨_, _, rfl⟩
    have hin : inL k c = false := by
      by_cases hb : (s[0]'(by omega)).toNat < 128
      · have := last_ascii s 0 hs hb
        rw [hcn] at this
        simp only [Prod.mk.injEq] at this
        rw [this.1, Bool.eq_false_iff]
        intro hm; exact h0n ((inL_byte k _).1 hm)
      · have := last_high s 0 hs hb
        rw [hcn] at this
        exact inL_high this
    have hc := dec_ca (X := X) hX99 s hlim h
    rw [hcn] at hc
    refine Fin_known _ hf ?_
    refine Fin_unrl ?_
    refine Run 1000 ?_
    refine Fin_c ((s.size : Int) > 0) (by kernel_rfl) (fun h1 => ?_) (fun h1 => by omega)
    refine Run 1000 ?_
    refine Fin_call 99 [.string s] (by kernel_rfl) (by kernel_rfl) hc (fun v2 hh2 hv2 => ?_)
    obtain ⟨rfl, rfl⟩ := hv2
    refine Run 1000 ?_
    refine Rng 9 (gB (lettersL k)) (by kernel_rfl) (by kernel_rfl) Tryd.underlying9 ?_
    refine Run 1000 ?_
    refine Fin_goto (lpN Tryd.f88 1) (hh2 ++ [AObj.siter (gB (lettersL k)) 0]) [(0, .string s), (1, .string (gB (lettersL k))), (5, .int .i32 c), (6, I n), (7, .bool false), (11, I s.size), (19, .pointer (some ⟨hh2.length, 0, none⟩))] (by kernel_rfl) (by kernel_rfl) (by kernel_rfl) (fun f1 hf1 => ?_)
    refine over_in88 k hk h0 s c (I n) (I s.size) hh2.length hG.le (fun f2 h2 hG2 hf2 => ?_) k 0 false f1 _ (by omega) (by simp) (by simp) (hG.trans ⟨_, rfl⟩) hf1
    rw [hin] at hf2
    refine Fin_known _ hf2 ?_
    refine Run 1000 ?_
    refine Fin_cB true (by kernel_rfl) ?_
    refine Run 1000 ?_
    exact Fin_r (by kernel_rfl) ⟨Or.inr rfl, .string s, by kernel_rfl, ⟨s, rfl, by omega⟩, hG2⟩
  | succ t ih =>
    intro s f h hs hlim hG h0n hf
    obtain ⟨c, n, hcn⟩ : ∃ c n, Lib.decodeLastL s.data.toList = (c, n) := ⟨_, _, rfl⟩
    have hc := dec_ca (X := X) hX99 s hlim h
    rw [hcn] at hc
    refine Fin_known _ hf ?_
    refine Fin_unrl ?_
    refine Run 1000 ?_
    refine Fin_c ((s.size : Int) > 0) (by kernel_rfl) (fun h1 => ?_) (fun h1 => by omega)
    refine Run 1000 ?_
    refine Fin_call 99 [.string s] (by kernel_rfl) (by kernel_rfl) hc (fun v2 hh2 hv2 => ?_)
    obtain ⟨rfl, rfl⟩ := hv2
    refine Run 1000 ?_
    refine Rng 9 (gB (lettersL k)) (by kernel_rfl) (by kernel_rfl) Tryd.underlying9 ?_
    refine Run 1000 ?_
    refine Fin_goto (lpN Tryd.f88 1) (hh2 ++ [AObj.siter (gB (lettersL k)) 0]) [(0, .string s), (1, .string (gB (lettersL k))), (5, .int .i32 c), (6, I n), (7, .bool false), (11, I s.size), (19, .pointer (some ⟨hh2.length, 0, none⟩))] (by kernel_rfl) (by kernel_rfl) (by kernel_rfl) (fun f1 hf1 => ?_)
    refine over_in88 k hk h0 s c (I n) (I s.size) hh2.length hG.le (fun f2 h2 hG2 hf2 => ?_) k 0 false f1 _ (by omega) (by simp) (by simp) (hG.trans ⟨_, rfl⟩) hf1
    cases hin : inL k c with
    | false =>
      rw [hin] at hf2
      refine Fin_known _ hf2 ?_
      refine Run 1000 ?_
      refine Fin_cB true (by kernel_rfl) ?_
      refine Run 1000 ?_
      exact Fin_r (by kernel_rfl) ⟨Or.inr rfl, .string s, by kernel_rfl, ⟨s, rfl, by omega⟩, hG2⟩
    | true =>
      have hn : n = 1 := by
        by_cases hb : (s[t + 1]'(by omega)).toNat < 128
        · have := last_ascii s (t + 1) hs hb
          rw [hcn] at this
          simp only [Prod.mk.injEq] at this
          exact this.2
        · have := last_high s (t + 1) hs hb
          rw [hcn] at this
          rw [inL_high this] at hin; simp at hin
      subst hn
      rw [hin] at hf2
      have hw : IntKind.wrap .i64 ((s.size : Int) - (1 : Nat)) = ((t + 1 : Nat) : Int) := by rw [hs, wrap_small (by omega) (by omega)]; omega
      obtain ⟨hh, hz⟩ := extract_zero s (t + 1) (by omega) (by omega)
      have hsz : (s.extract 0 (t + 1)).size = t + 1 := by simp; omega
      refine Fin_known _ hf2 ?_
      refine Run 1000 ?_
      refine Fin_cB false (by kernel_rfl) ?_
      refine Run 1000 ?_
      refine Slic 9 (.string s) (.string (s.extract 0 (t + 1))) none (some (I (IntKind.wrap .i64 ((s.size : Int) - (1 : Nat))))) none (by kernel_rfl) (by kernel_rfl) (by rw [hw]; exact slice_to s (t + 1) (by omega)) ?_
      refine Run 1000 ?_
      refine Fin_goto (lpN Tryd.f88 0) h2 [(0, .string (s.extract 0 (t + 1))), (1, .string (gB (lettersL k)))] (by kernel_rfl) (by kernel_rfl) (by kernel_rfl) (fun f3 hf3 => ?_)
      exact ih (s.extract 0 (t + 1)) f3 h2 hsz (by omega) hG2 (by rw [hz]; exact h0n) hf3

theorem right_spec {X : Ext} (hX : X 88 = none) (hX99 : X 99 = some decC) (k : Nat) (hk : k ≤ 4) (s : ByteArray) (hs : s.size < 1000000) (hf : ∀ h : 0 < s.size, s[0]'h ∉ lettersL k) (h : AHeap) :
    Ca Tryd.prog X (.fn 88) [.string s, .string (gB (lettersL k))] h (fun v h' => (∃ q, v = .string q ∧ (0 < s.size ↔ 0 < q.size)) ∧ Grew h h') := by
  refine Ca_fn (fn := Tryd.f88) (c := Tryd.f88.body.getD .skip) hX (by kernel_rfl) (by kernel_rfl) (by kernel_rfl) ?_
  refine Run 1000 ?_
  refine Fin_goto (lpN Tryd.f88 0) h [(0, .string s), (1, .string (gB (lettersL k)))] (by kernel_rfl) (by kernel_rfl) (by kernel_rfl) (fun f1 hf1 => ?_)
  by_cases h0 : 0 < s.size
  · obtain ⟨t, ht⟩ : ∃ t, s.size = t + 1 := ⟨s.size - 1, by omega⟩
    exact (right_loop hX99 k hk h t s f1 h ht hs (Grew.refl h) (hf h0) hf1).imp fun e y ⟨he, v, hv, ⟨q, hq, hq0⟩, hG⟩ => ⟨he, v, hv, ⟨q, hq, by simp [h0, hq0]⟩, hG⟩
  · refine Fin_known _ hf1 ?_
    refine Fin_unrl ?_
    refine Run 1000 ?_
    refine Fin_c ((s.size : Int) > 0) (by kernel_rfl) (fun h1 => by omega) (fun h1 => ?_)
    refine Run 1000 ?_
    exact Fin_r (by kernel_rfl) ⟨Or.inr rfl, .string s, by kernel_rfl, ⟨s, rfl, Iff.rfl⟩, Grew.refl h⟩

/-- All letters of a string are among the first k. -/
def overF (k : Nat) (s : ByteArray) : Bool := s.data.toList.all fun c => (lettersL k).contains c
theorem overF_iff (k : Nat) (s : ByteArray) : overF k s = true ↔ ∀ i (h : i < s.size), s[i]'h ∈ lettersL k := by
  unfold overF
  rw [List.all_eq_true]
  have hl : s.data.toList.length = s.size := (Lib.size_eq s).symm
  constructor
  · intro h i hi
    have := h (s[i]'hi) (by exact List.getElem_mem (l := s.data.toList) (n := i) (by omega))
    simpa using this
  · intro h c hc
    obtain ⟨i, hi, rfl⟩ := List.getElem_of_mem hc
    have h3 := h i (by omega)
    show (lettersL k).contains (s[i]'(by omega)) = true
    rw [List.contains_iff_mem]; exact h3
theorem seq_empty (q : ByteArray) : seq q ByteArray.empty = true ↔ q.size = 0 := by
  unfold seq
  rw [beq_iff_eq, Lib.size_eq q]
  cases q.data.toList <;> simp
structure OverX (X : Ext) : Prop where
  x72 : X 72 = none
  x88 : X 88 = none
  x89 : X 89 = none
  x99 : X 99 = some decC
theorem over_spec {X : Ext} (x : OverX X) (k : Nat) (hk : k ≤ 4) (s : ByteArray) (hs : s.size < 1000000) (h : AHeap) :
    Ca Tryd.prog X (.fn 72) [I k, .string s] h (fun v h' => v = .bool (overF k s) ∧ Grew h h') := by
  refine Ca_fn (fn := Tryd.f72) (c := Tryd.f72.body.getD .skip) x.x72 (by kernel_rfl) (by kernel_rfl) (by kernel_rfl) ?_
  refine Run 1000 ?_
  refine Draw (by kernel_rfl) ?_
  refine Run 1000 ?_
  refine Slic 9 (.string { data := #[97, 98, 99, 100] }) (.string (gB (lettersL k))) none (some (I k)) none (by kernel_rfl) (by kernel_rfl) (letters_slice k hk) ?_
  refine Run 1000 ?_
  refine Fin_call 89 [.string s, .string (gB (lettersL k))] (by kernel_rfl) (by kernel_rfl) (left_spec x.x89 k hk s hs h) (fun v2 hh2 hv2 => ?_)
  obtain ⟨⟨r, rfl, hr⟩, G2⟩ := hv2
  refine Run 1000 ?_
  refine Slic 9 (.string { data := #[97, 98, 99, 100] }) (.string (gB (lettersL k))) none (some (I k)) none (by kernel_rfl) (by kernel_rfl) (letters_slice k hk) ?_
  refine Run 1000 ?_
  have hrs : r.size < 1000000 ∧ ∀ h : 0 < r.size, r[0]'h ∉ lettersL k := by
    rcases hr with ⟨rfl, _⟩ | ⟨i, hi, rfl, hn⟩
    · exact ⟨by decide, fun h => absurd h (by decide)⟩
    · refine ⟨by simp; omega, fun h => ?_⟩
      have e1 : (s.extract i s.size).data.toList[0]? = some ((s.extract i s.size)[0]'h) := List.getElem?_eq_getElem (by rw [← Lib.size_eq]; exact h)
      have e2 : (s.extract i s.size).data.toList[0]? = s.data.toList[i]? := by
        have := gB_extract s.data.toList i s.size
        rw [gB_of] at this
        rw [this, gB_list, List.getElem?_drop, List.getElem?_take]
        simp [hi]
      have e3 : s.data.toList[i]? = some (s[i]'hi) := List.getElem?_eq_getElem (by rw [← Lib.size_eq]; exact hi)
      rw [e1, e3] at e2
      rw [Option.some.inj e2]; exact hn
  refine Fin_call 88 [.string r, .string (gB (lettersL k))] (by kernel_rfl) (by kernel_rfl) (right_spec x.x88 x.x99 k hk r hrs.1 hrs.2 hh2) (fun v4 hh4 hv4 => ?_)
  obtain ⟨⟨q, rfl, hq⟩, G4⟩ := hv4
  refine Run 1000 ?_
  refine Fin_r (by kernel_rfl) ⟨Or.inr rfl, .bool (seq q ByteArray.empty), by kernel_rfl, ?_, G2.trans G4⟩
  congr 1
  rw [Bool.eq_iff_iff, seq_empty, overF_iff]
  rcases hr with ⟨rfl, hall⟩ | ⟨i, hi, rfl, hn⟩
  · have : ¬0 < ByteArray.empty.size := by decide
    rw [eq_true hall, iff_true]; omega
  · have h0 : 0 < (s.extract i s.size).size := by simp; omega
    have := hq.1 h0
    constructor
    · intro h; omega
    · intro h; exact absurd (h i hi) hn
end Go.Proofs.YtpbmpdocgplhpaaDoor

/-
  The reference's Letters and Word; the law's word; flag.checkWord, IsWhole, Turns, First.
-/
set_option linter.unusedSimpArgs false
set_option linter.unusedVariables false
set_option maxRecDepth 100000
namespace Go.Proofs.YtpbmpdocgplhpaaDoor
open Go Go.AM

theorem letter_tab : ∀ k : Fin 5, ∀ n : Fin 256, (lettersL k).contains (UInt8.ofNat n) = decide (97 ≤ n.val ∧ n.val - 97 < k.val) := by decide +kernel
theorem letter_iff {k : Nat} (hk : k ≤ 4) (b : UInt8) : (lettersL k).contains b = decide (97 ≤ b.toNat ∧ b.toNat - 97 < k) := by
  have := letter_tab ⟨k, by omega⟩ ⟨b.toNat, UInt8.toNat_lt b⟩
  simpa using this
theorem byte_at (s : ByteArray) (i : Nat) (h : i < s.size) : s[(i : Int).toNat]? = some (s[i]'h) := by
  rw [Int.toNat_natCast]; exact getElem?_pos s i h
theorem drop_bytes (s : ByteArray) (i : Nat) (h : i < s.size) : s.data.toList.drop i = s[i]'h :: s.data.toList.drop (i + 1) := by
  have hl : s.data.toList.length = s.size := (Lib.size_eq s).symm
  rw [List.drop_eq_getElem_cons (by omega)]; rfl

theorem lett_loop {X : Ext} (k : Nat) (hk : k ≤ 4) (h : AHeap) (s : ByteArray) (hs : s.size < 1000000) :
    ∀ (t i : Nat) (f : Nat → Value), i + t = s.size → Knows f [(0, .string s), (1, I k), (5, I i)] →
    Fin Tryd.prog X none Tryd.f26.ntmps (lpN Tryd.f26 0) .normal ⟨f, h⟩ (fun e y => (e = .normal ∨ e = .ret) ∧ ∃ v, fresults Tryd.prog Tryd.f26.results.toList y = some v ∧ v = .bool ((s.data.toList.drop i).all fun c => (lettersL k).contains c) ∧ y.h = h) := by
  intro t
  induction t with
  | zero =>
    intro i f hi hf
    refine Fin_known _ hf ?_
    refine Fin_unrl ?_
    refine Run 1000 ?_
    refine Fin_c ((i : Int) < s.size) (by kernel_rfl) (fun h1 => by omega) (fun h1 => ?_)
    refine Run 1000 ?_
    refine Fin_r (by kernel_rfl) ⟨Or.inr rfl, .bool true, by kernel_rfl, ?_, rfl⟩
    rw [List.drop_of_length_le (by rw [← Lib.size_eq]; omega)]; rfl
  | succ t ih =>
    intro i f hi hf
    have hlt : i < s.size := by omega
    obtain ⟨c, hc⟩ : ∃ c, c = s[i]'hlt := ⟨_, rfl⟩
    have hat : s[(i : Int).toNat]? = some c := by rw [hc]; exact byte_at s i hlt
    have hall : ((s.data.toList.drop i).all fun c => (lettersL k).contains c) = ((lettersL k).contains c && (s.data.toList.drop (i + 1)).all fun c => (lettersL k).contains c) := by
      rw [drop_bytes s i hlt, List.all_cons, ← hc]
    have hcl := UInt8.toNat_lt c
    rw [hall, letter_iff hk c]
    refine Fin_known _ hf ?_
    refine Fin_unrl ?_
    refine Run 1000 ?_
    refine Fin_c ((i : Int) < s.size) (by kernel_rfl) (fun h1 => ?_) (fun h1 => by omega)
    refine Run 1000 ?_
    refine IdxS 9 s .i64 i c (by kernel_rfl) (by kernel_rfl) ti9 rfl (by omega) hat ?_
    refine Run 1000 ?_
    refine Fin_g ((c.toNat : Int) < 97) (by kernel_rfl) (by kernel_rfl) (fun h2 => ?_) (fun h2 => ?_)
    · refine Run 1000 ?_
      refine Fin_cB true (by kernel_rfl) ?_
      refine Run 1000 ?_
      refine Fin_r (by kernel_rfl) ⟨Or.inr rfl, .bool false, by kernel_rfl, ?_, rfl⟩
      rw [decide_eq_false (by omega)]; rfl
    · refine Run 1000 ?_
      refine IdxS 9 s .i64 i c (by kernel_rfl) (by kernel_rfl) ti9 rfl (by omega) hat ?_
      refine Run 1000 ?_
      have hw : IntKind.wrap .i64 (IntKind.wrap .u8 ((c.toNat : Int) - 97)) = c.toNat - 97 := by
        rw [wrap_u8 (by omega) (by omega), wrap_small (by omega) (by omega)]
      refine Fin_c (IntKind.wrap .i64 (IntKind.wrap .u8 ((c.toNat : Int) - 97)) ≥ k) (by kernel_rfl) (fun h3 => ?_) (fun h3 => ?_)
      · refine Run 1000 ?_
        refine Fin_r (by kernel_rfl) ⟨Or.inr rfl, .bool false, by kernel_rfl, ?_, rfl⟩
        rw [decide_eq_false (by omega)]; rfl
      · refine Run 1000 ?_
        refine Fin_goto (lpN Tryd.f26 0) h [(0, .string s), (1, I k), (5, I (IntKind.wrap .i64 ((i : Int) + 1)))] (by kernel_rfl) (by kernel_rfl) (by kernel_rfl) (fun f' hf' => ?_)
        rw [wrap_next (n := s.size) hlt (by omega)] at hf'
        have := ih (i + 1) f' (by omega) hf'
        rw [decide_eq_true (by omega), Bool.true_and]; exact this
theorem lett_spec {X : Ext} (hX : X 26 = none) (k : Nat) (hk : k ≤ 4) (s : ByteArray) (hs : s.size < 1000000) (h : AHeap) :
    Ca Tryd.prog X (.fn 26) [.string s, I k] h (fun v h' => v = .bool (overF k s) ∧ h' = h) := by
  refine Ca_fn (fn := Tryd.f26) (c := Tryd.f26.body.getD .skip) hX (by kernel_rfl) (by kernel_rfl) (by kernel_rfl) ?_
  refine Run 1000 ?_
  refine Fin_goto (lpN Tryd.f26 0) h [(0, .string s), (1, I k), (5, I (0 : Nat))] (by kernel_rfl) (by kernel_rfl) (by kernel_rfl) (fun f' hf' => ?_)
  exact lett_loop k hk h s hs s.size 0 f' (by omega) hf'
/-- A word over four flags. -/
def isWordF (s : ByteArray) : Bool := overF 4 s && decide (1 ≤ s.size ∧ s.size ≤ 5)
theorem word_spec {X : Ext} (hX : X 37 = none) (hX2 : X 26 = none) (s : ByteArray) (hs : s.size < 1000000) (h : AHeap) :
    Ca Tryd.prog X (.fn 37) [.string s] h (fun v h' => v = .bool (isWordF s) ∧ h' = h) := by
  refine Ca_fn (fn := Tryd.f37) (c := Tryd.f37.body.getD .skip) hX (by kernel_rfl) (by kernel_rfl) (by kernel_rfl) ?_
  refine Run 1000 ?_
  refine Fin_call 26 [.string s, I (4 : Nat)] (by kernel_rfl) (by kernel_rfl) (lett_spec hX2 4 (Nat.le_refl 4) s hs h) (fun v1 hh1 hv1 => ?_)
  obtain ⟨rfl, rfl⟩ := hv1
  unfold isWordF
  refine Run 1000 ?_
  refine Fin_g2 (overF 4 s) (by kernel_rfl) (by kernel_rfl) (fun ho => ?_) (fun ho => ?_)
  · rw [ho]
    refine Run 1000 ?_
    refine Fin_g ((s.size : Int) ≥ 1) (by kernel_rfl) (by kernel_rfl) (fun h3 => ?_) (fun h3 => ?_)
    · refine Run 1000 ?_
      refine Fin_r (by kernel_rfl) ⟨Or.inr rfl, .bool (decide ((s.size : Int) ≤ 5)), by kernel_rfl, ?_, rfl⟩
      rw [Bool.true_and]; congr 1; rw [decide_eq_decide]; omega
    · refine Run 1000 ?_
      refine Fin_r (by kernel_rfl) ⟨Or.inr rfl, .bool false, by kernel_rfl, ?_, rfl⟩
      rw [decide_eq_false (by omega)]; rfl
  · rw [ho]
    refine Run 1000 ?_
    refine Fin_gB false (by kernel_rfl) (by kernel_rfl) ?_
    refine Run 1000 ?_
    exact Fin_r (by kernel_rfl) ⟨Or.inr rfl, .bool false, by kernel_rfl, rfl, rfl⟩

theorem overF_ascii {k : Nat} {s : ByteArray} (h : overF k s = true) : ascii s := fun i hi => letters_low ((overF_iff k s).1 h i hi)
theorem isWord_iff {s : ByteArray} : isWordF s = true ↔ overF 4 s = true ∧ 1 ≤ s.size ∧ s.size ≤ 5 := by
  unfold isWordF; rw [Bool.and_eq_true, decide_eq_true_iff]
theorem check_spec {X : Ext} (hX : X 60 = none) (x : OverX X) (s : ByteArray) (hs : s.size < 1000000) (h : AHeap) :
    Ca Tryd.prog X (.fn 60) [.string s] h (fun v h' => v = I (if isWordF s = true then 0 else 1) ∧ Grew h h') := by
  refine Ca_fn (fn := Tryd.f60) (c := Tryd.f60.body.getD .skip) hX (by kernel_rfl) (by kernel_rfl) (by kernel_rfl) ?_
  refine Run 1000 ?_
  refine Fin_g ((s.size : Int) < 1) (by kernel_rfl) (by kernel_rfl) (fun h1 => ?_) (fun h1 => ?_)
  · have hno : isWordF s = false := by unfold isWordF; rw [decide_eq_false (by omega), Bool.and_false]
    refine RunA 1000 3 ?_
    exact Fin_r (by kernel_rfl) ⟨Or.inr rfl, I 1, by kernel_rfl, by rw [hno]; rfl, Grew.refl h⟩
  · refine Run 1000 ?_
    refine Fin_g ((s.size : Int) > 5) (by kernel_rfl) (by kernel_rfl) (fun h2 => ?_) (fun h2 => ?_)
    · have hno : isWordF s = false := by unfold isWordF; rw [decide_eq_false (by omega), Bool.and_false]
      refine RunA 1000 3 ?_
      exact Fin_r (by kernel_rfl) ⟨Or.inr rfl, I 1, by kernel_rfl, by rw [hno]; rfl, Grew.refl h⟩
    · refine Run 1000 ?_
      refine Fin_call 72 [I (4 : Nat), .string s] (by kernel_rfl) (by kernel_rfl) (over_spec x 4 (Nat.le_refl 4) s hs h) (fun v3 hh3 hv3 => ?_)
      obtain ⟨rfl, G⟩ := hv3
      have he : isWordF s = overF 4 s := by unfold isWordF; rw [decide_eq_true (by omega), Bool.and_true]
      rw [he]
      cases ho : overF 4 s with
      | true =>
        refine RunA 1000 3 ?_
        exact Fin_r (by kernel_rfl) ⟨Or.inr rfl, I 0, by kernel_rfl, rfl, G⟩
      | false =>
        refine RunA 1000 3 ?_
        exact Fin_r (by kernel_rfl) ⟨Or.inr rfl, I 1, by kernel_rfl, rfl, G⟩

structure WordX (X : Ext) : Prop where
  o : OverX X
  r : RingX X
  x60 : X 60 = none
  x34 : X 34 = none
  x35 : X 35 = none
  x36 : X 36 = none
theorem isWhole_spec {X : Ext} (x : WordX X) (s : ByteArray) (hs : s.size < 1000000) (h : AHeap) :
    Ca Tryd.prog X (.fn 34) [.string s] h (fun v h' => v = (if isWordF s = true then .tuple #[.bool (wholeF s), I 0] else .tuple #[.bool false, I 1]) ∧ Grew h h') := by
  refine Ca_fn (fn := Tryd.f34) (c := Tryd.f34.body.getD .skip) x.x34 (by kernel_rfl) (by kernel_rfl) (by kernel_rfl) ?_
  refine Run 1000 ?_
  refine Fin_call 60 [.string s] (by kernel_rfl) (by kernel_rfl) (check_spec x.x60 x.o s hs h) (fun v1 hh1 hv1 => ?_)
  obtain ⟨rfl, G1⟩ := hv1
  cases hw : isWordF s with
  | false =>
    refine RunA 1000 3 ?_
    exact Fin_r (by kernel_rfl) ⟨Or.inr rfl, .tuple #[.bool false, I 1], by kernel_rfl, rfl, G1⟩
  | true =>
    obtain ⟨ho, h1, h5⟩ := isWord_iff.1 hw
    refine RunA 1000 3 ?_
    refine Fin_call 61 [.string s] (by kernel_rfl) (by kernel_rfl) (whole_spec x.r.x61 x.r.x63 x.r.s s (overF_ascii ho) h1 (by omega) hh1) (fun v4 hh4 hv4 => ?_)
    obtain ⟨rfl, G4⟩ := hv4
    refine Run 1000 ?_
    exact Fin_r (by kernel_rfl) ⟨Or.inr rfl, .tuple #[.bool (wholeF s), I 0], by kernel_rfl, rfl, G1.trans G4⟩
theorem firstOf_spec {X : Ext} (x : WordX X) (s : ByteArray) (hs : s.size < 1000000) (h : AHeap) :
    Ca Tryd.prog X (.fn 35) [.string s] h (fun v h' => v = (if isWordF s = true then .tuple #[.string (firstF s), I 0] else .tuple #[.string ByteArray.empty, I 1]) ∧ Grew h h') := by
  refine Ca_fn (fn := Tryd.f35) (c := Tryd.f35.body.getD .skip) x.x35 (by kernel_rfl) (by kernel_rfl) (by kernel_rfl) ?_
  refine Run 1000 ?_
  refine Fin_call 60 [.string s] (by kernel_rfl) (by kernel_rfl) (check_spec x.x60 x.o s hs h) (fun v1 hh1 hv1 => ?_)
  obtain ⟨rfl, G1⟩ := hv1
  cases hw : isWordF s with
  | false =>
    refine RunA 1000 3 ?_
    exact Fin_r (by kernel_rfl) ⟨Or.inr rfl, .tuple #[.string ByteArray.empty, I 1], by kernel_rfl, rfl, G1⟩
  | true =>
    obtain ⟨ho, h1, h5⟩ := isWord_iff.1 hw
    refine RunA 1000 3 ?_
    refine Fin_call 63 [.string s] (by kernel_rfl) (by kernel_rfl) (turns_spec x.r.x63 s (overF_ascii ho) (by omega) hh1) (fun v3 hh3 A3 => ?_)
    have G3 := A3.grew
    refine Run 1000 ?_
    refine Fin_call 62 [v3] (by kernel_rfl) (by kernel_rfl) (first_spec x.r.x62 s hh1 hh3 v3 A3 h1 (by omega)) (fun v4 hh4 hv4 => ?_)
    obtain ⟨rfl, rfl⟩ := hv4
    refine Run 1000 ?_
    exact Fin_r (by kernel_rfl) ⟨Or.inr rfl, .tuple #[.string (firstF s), I 0], by kernel_rfl, rfl, G1.trans G3⟩
/-- What 'Turns' hands back reads as these strings, in memory of its own. -/
theorem turnsOf_spec {X : Ext} (x : WordX X) (s : ByteArray) (hs : s.size < 1000000) (h : AHeap) :
    Ca Tryd.prog X (.fn 36) [.string s] h (fun v h' => ∃ a kk, v = .tuple #[.slice a (if isWordF s = true then sortedF (turnsTo s s.size) else []).length kk, I (if isWordF s = true then 0 else 1)] ∧ Strs h' a (if isWordF s = true then sortedF (turnsTo s s.size) else []) ∧ Grew h h') := by
  refine Ca_fn (fn := Tryd.f36) (c := Tryd.f36.body.getD .skip) x.x36 (by kernel_rfl) (by kernel_rfl) (by kernel_rfl) ?_
  refine Run 1000 ?_
  refine Fin_call 60 [.string s] (by kernel_rfl) (by kernel_rfl) (check_spec x.x60 x.o s hs h) (fun v1 hh1 hv1 => ?_)
  obtain ⟨rfl, G1⟩ := hv1
  cases hw : isWordF s with
  | false =>
    refine RunA 1000 3 ?_
    exact Fin_r (by kernel_rfl) ⟨Or.inr rfl, .tuple #[.slice none 0 0, I 1], by kernel_rfl, none, 0, rfl, ⟨Or.inl rfl, by intro i hi; simp at hi⟩, G1⟩
  | true =>
    obtain ⟨ho, h1, h5⟩ := isWord_iff.1 hw
    refine RunA 1000 3 ?_
    refine Fin_call 63 [.string s] (by kernel_rfl) (by kernel_rfl) (turns_spec x.r.x63 s (overF_ascii ho) (by omega) hh1) (fun v3 hh3 A3 => ?_)
    have hl := turnsTo_length s s.size
    have G3 := A3.grew
    obtain ⟨b, hb, rfl, hr⟩ := A3.row (by omega)
    refine Run 1000 ?_
    refine Fin_call 64 [.slice (some ⟨b, 0, some 1⟩) (turnsTo s s.size).length ((turnsTo s s.size).length + 1)] (by kernel_rfl) (by kernel_rfl) (sorted_small x.r.s hh3 b _ (turnsTo s s.size) hr (by omega)) (fun v4 hh4 hv4 => ?_)
    obtain ⟨L', kk', rfl, rfl, h3, h4⟩ := hv4
    refine Run 1000 ?_
    refine Fin_r (by kernel_rfl) ⟨Or.inr rfl, .tuple #[.slice (some ⟨b, 0, some 1⟩) (sortedF (turnsTo s s.size)).length kk', I 0], by kernel_rfl, some ⟨b, 0, some 1⟩, kk', rfl, ⟨Or.inr ⟨b, 0, rfl⟩, fun i hi => ?_⟩, G1.trans (G3.set (by have := G1.le; omega) _)⟩
    simp only [if_true] at hi ⊢
    refine ⟨b, 0, strs L', true, rfl, List.getElem?_set_self (lt_of_get hr), ?_⟩
    rw [Nat.zero_add]
    refine strs_get ?_
    have e1 : (L'.take (sortedF (turnsTo s s.size)).length)[i]? = (sortedF (turnsTo s s.size))[i]? := by rw [h3]
    rw [List.getElem?_take, if_pos hi] at e1
    rw [e1]; exact List.getElem?_eq_getElem hi
end Go.Proofs.YtpbmpdocgplhpaaDoor

/-
  The law's word: a word of n letters out of any string.
-/
set_option linter.unusedSimpArgs false
set_option linter.unusedVariables false
set_option maxRecDepth 100000
namespace Go.Proofs.YtpbmpdocgplhpaaDoor
open Go Go.AM

def bytesV (L : List UInt8) : List Value := L.map fun c => .int .u8 c.toNat
theorem bytesV_length (L : List UInt8) : (bytesV L).length = L.length := by simp [bytesV]
theorem bytesL_V : ∀ L : List UInt8, bytesL (bytesV L) = some L := by
  intro L
  induction L with
  | nil => rfl
  | cons c L ih =>
    simp only [bytesV, List.map_cons, bytesL] at ih ⊢
    rw [ih]
    simp
/-- v is the slice of the bytes L, in memory newer than h0 of which all is as it was. -/
structure AccB (h0 h : AHeap) (v : Value) (L : List UInt8) : Prop where
  le : h0.length ≤ h.length
  old : ∀ j, j < h0.length → h[j]? = h0[j]?
  val : (L = [] ∧ v = .slice none 0 0) ∨ ∃ b, h0.length ≤ b ∧ v = .slice (some ⟨b, 0, some 1⟩) L.length (L.length + 1) ∧ h[b]? = some (.row (bytesV L) true)
theorem AccB.grew {h0 h : AHeap} {v : Value} {L : List UInt8} (A : AccB h0 h v L) : Grew h0 h := by
  refine ⟨h.drop h0.length, ?_⟩
  apply List.ext_getElem?
  intro j
  by_cases hj : j < h0.length
  · rw [List.getElem?_append_left hj, A.old j hj]
  · rw [List.getElem?_append_right (by omega), List.getElem?_drop]
    congr 1; omega
theorem AccB.app {h0 h : AHeap} {v : Value} {L : List UInt8} (A : AccB h0 h v L) (c : UInt8) (hL : L.length < 4294967295) :
    ∃ v' h', aappend Tryd.prog (h ++ [.row [.int .u8 c.toNat] true]) 87 v (.slice (some ⟨h.length, 0, some 1⟩) 1 1) = some (v', h') ∧ AccB h0 h' v' (L ++ [c]) := by
  have hnew : loadN (h ++ [AObj.row [Value.int .u8 c.toNat] true]) h.length 0 (1 * 1) = some [.int .u8 c.toNat] := by simp [loadN, cells?]
  have hlim : L.length + 1 ≤ lim := by simp only [lim]; omega
  rcases A.val with ⟨rfl, rfl⟩ | ⟨b, hb, rfl, hr⟩
  · refine ⟨.slice (some ⟨(h ++ [AObj.row [Value.int .u8 c.toNat] true]).length, 0, some 1⟩) 1 2, (h ++ [AObj.row [Value.int .u8 c.toNat] true]) ++ [AObj.row [Value.int .u8 c.toNat] true], ?_, ⟨?_, ?_, ?_⟩⟩
    · simp only [aappend, ti87, elemsLen, ti5, loadElems, if_true, hnew]
      have e1 : decide (0 + 1 ≤ lim) = true := by decide
      simp only [e1, limBytes]
      rfl
    · have := A.le; simp; omega
    · intro j hj
      have := A.le
      rw [List.getElem?_append_left (by simp; omega), List.getElem?_append_left (by omega)]
      exact A.old j hj
    · refine Or.inr ⟨(h ++ [AObj.row [Value.int .u8 c.toNat] true]).length, by have := A.le; simp; omega, rfl, ?_⟩
      rw [List.getElem?_append_right (Nat.le_refl _)]; simp [bytesV]
  · have hbl : b < h.length := lt_of_get hr
    have hr' : (h ++ [AObj.row [Value.int .u8 c.toNat] true])[b]? = some (.row (bytesV L) true) := by rw [List.getElem?_append_left hbl]; exact hr
    have hold : loadN (h ++ [AObj.row [Value.int .u8 c.toNat] true]) b 0 (L.length * 1) = some (bytesV L) := by
      simp only [loadN, cells?, hr', bytesV_length]
      rw [if_pos (by omega)]; simp [List.take_of_length_le, bytesV_length]
    refine ⟨.slice (some ⟨(h ++ [AObj.row [Value.int .u8 c.toNat] true]).length, 0, some 1⟩) (L.length + 1) (L.length + 1 + 1), (h ++ [AObj.row [Value.int .u8 c.toNat] true]).set b AObj.dead ++ [AObj.row (bytesV L ++ [Value.int .u8 c.toNat]) true], ?_, ⟨?_, ?_, ?_⟩⟩
    · simp only [aappend, ti87, elemsLen, ti5, loadElems, if_true, hnew, hold, hr']
      have e1 : decide (L.length + 1 ≤ lim) = true := by simp [hlim]
      simp [e1, limBytes, isCell]
    · have := A.le; simp; omega
    · intro j hj
      have := A.le
      rw [List.getElem?_append_left (by simp; omega), List.getElem?_set_ne (by omega), List.getElem?_append_left (by omega)]
      exact A.old j hj
    · refine Or.inr ⟨(h ++ [AObj.row [Value.int .u8 c.toNat] true]).length, by have := A.le; simp; omega, by simp, ?_⟩
      rw [List.getElem?_append_right (by simp)]; simp [bytesV]
theorem u87 : Tryd.prog.underlying 87 = some (.slice 5) := by kernel_rfl

/-- The letter at a place. -/
def ownLetter (s : ByteArray) (k i : Nat) : UInt8 := match s.data.toList[i]? with
  | some c => UInt8.ofNat (97 + c.toNat % k)
  | none => 97
def ownWord (s : ByteArray) (k n : Nat) : List UInt8 := (List.range n).map (ownLetter s k)

theorem ow_loop {X : Ext} (h0 : AHeap) (s : ByteArray) (hs : s.size ≤ 9223372036854775807) (k n : Nat) (hk1 : 1 ≤ k) (hk : k ≤ 4) (hn1 : 1 ≤ n) (hn : n ≤ 1000) :
    ∀ (t i : Nat) (f : Nat → Value) (h : AHeap) (v : Value), i + t = n → AccB h0 h v ((List.range i).map (ownLetter s k)) → Knows f [(0, .string s), (1, I k), (2, I n), (7, v), (8, I i)] →
    Fin Tryd.prog X none Tryd.f40.ntmps (lpN Tryd.f40 0) .normal ⟨f, h⟩ (fun e y => (e = .normal ∨ e = .ret) ∧ ∃ v, fresults Tryd.prog Tryd.f40.results.toList y = some v ∧ v = .string (gB (ownWord s k n)) ∧ Grew h0 y.h) := by
  intro t
  induction t with
  | zero =>
    intro i f h v hi A hf
    obtain rfl : i = n := by omega
    refine Fin_known _ hf ?_
    refine Fin_unrl ?_
    refine Run 1000 ?_
    refine Fin_c ((i : Int) < i) (by kernel_rfl) (fun h1 => by omega) (fun h1 => ?_)
    refine Run 1000 ?_
    have hlen : ((List.range i).map (ownLetter s k)).length = i := by simp
    rcases A.val with ⟨e, _⟩ | ⟨b, hb, rfl, hr⟩
    · rw [e] at hlen; simp at hlen; omega
    · refine ConvB 87 9 (.slice (some ⟨b, 0, some 1⟩) ((List.range i).map (ownLetter s k)).length (((List.range i).map (ownLetter s k)).length + 1)) (.string (gB (ownWord s k i))) (by kernel_rfl) (by kernel_rfl) (by simp [aconv, u87, Tryd.underlying9]) ?_ ?_
      · have hl : loadN h b 0 ((List.range i).map (ownLetter s k)).length = some (bytesV (ownWord s k i)) := by
          simp only [loadN, cells?, hr, bytesV_length]
          rw [if_pos (by simp)]
          simp only [ownWord, List.drop_zero]
          rw [List.take_of_length_le (by simp [bytesV_length])]
        have hpos : Nat.blt 0 ((List.range i).map (ownLetter s k)).length = true := by rw [hlen]; exact Nat.ble_eq_true_of_le (by omega)
        simp only [abytes, u87, Tryd.underlying9, Tryd.underlying5, hl, hpos, bytesL_V]
        rfl
      · refine Run 1000 ?_
        exact Fin_r (by kernel_rfl) ⟨Or.inr rfl, .string (gB (ownWord s k i)), by kernel_rfl, rfl, A.grew⟩
  | succ t ih =>
    intro i f h v hi A hf
    have hnext : IntKind.wrap .i64 ((i : Int) + 1) = ((i + 1 : Nat) : Int) := wrap_next (n := n) (by omega) (by omega)
    obtain ⟨v2, h2, e2, A2⟩ := A.app (ownLetter s k i) (by simp; omega)
    have hacc : (List.range (i + 1)).map (ownLetter s k) = (List.range i).map (ownLetter s k) ++ [ownLetter s k i] := by rw [List.range_succ, List.map_append]; rfl
    have hss : s.data.toList.length = s.size := (Lib.size_eq s).symm
    refine Fin_known _ hf ?_
    refine Fin_unrl ?_
    refine Run 1000 ?_
    refine Fin_c ((i : Int) < n) (by kernel_rfl) (fun h1 => ?_) (fun h1 => by omega)
    refine Run 1000 ?_
    refine Fin_c ((i : Int) < s.size) (by kernel_rfl) (fun h3 => ?_) (fun h3 => ?_)
    · have hlt : i < s.size := by omega
      obtain ⟨c, hc⟩ : ∃ c, c = s[i]'hlt := ⟨_, rfl⟩
      have hat : s[(i : Int).toNat]? = some c := by rw [hc]; exact byte_at s i hlt
      have hown : ownLetter s k i = UInt8.ofNat (97 + c.toNat % k) := by
        unfold ownLetter
        rw [List.getElem?_eq_getElem (by omega : i < s.data.toList.length), hc]; rfl
      have hcl := UInt8.toNat_lt c
      have hm : c.toNat % k < k := Nat.mod_lt _ (by omega)
      have hmod : Int.tmod (IntKind.wrap .i64 (c.toNat : Int)) k = ((c.toNat % k : Nat) : Int) := by
        rw [wrap_small (by omega) (by omega), Int.tmod_eq_emod_of_nonneg (by omega)]; rfl
      have hval : IntKind.wrap .u8 (97 + IntKind.wrap .u8 (Int.tmod (IntKind.wrap .i64 (c.toNat : Int)) k)) = ((ownLetter s k i).toNat : Int) := by
        have hm2 : IntKind.wrap .u8 ((c.toNat % k : Nat) : Int) = ((c.toNat % k : Nat) : Int) := wrap_u8 (by omega) (by omega)
        rw [hmod, hm2, wrap_u8 (by omega) (by omega), hown]
        simp only [UInt8.toNat_ofNat']
        omega
      refine Run 1000 ?_
      refine IdxS 9 s .i64 i c (by kernel_rfl) (by kernel_rfl) ti9 rfl (by omega) hat ?_
      refine Run 1000 ?_
      refine Bin .rem 3 (I (IntKind.wrap .i64 (c.toNat : Int))) (I k) (I (Int.tmod (IntKind.wrap .i64 (c.toNat : Int)) k)) (by kernel_rfl) (by kernel_rfl) (by simp [abin, aint]; omega) ?_
      refine Run 1000 ?_
      refine Bld 87 1 [(0, .int .u8 (IntKind.wrap .u8 (97 + IntKind.wrap .u8 (Int.tmod (IntKind.wrap .i64 (c.toNat : Int)) k))))] (.slice (some ⟨h.length, 0, some 1⟩) 1 1) (h ++ [AObj.row [.int .u8 (ownLetter s k i).toNat] true]) (by kernel_rfl) (by kernel_rfl) (by rw [hval]; simp [abuildSlice, ti87, ti5, zerosOf, afill, splice, isCell, Value.cells, isData]) ?_
      refine Run 1000 ?_
      refine App 87 87 v (.slice (some ⟨h.length, 0, some 1⟩) 1 1) v2 h2 (by kernel_rfl) (by kernel_rfl) u87 (by simp) e2 ?_
      refine Run 1000 ?_
      refine Fin_goto (lpN Tryd.f40 0) h2 [(0, .string s), (1, I k), (2, I n), (7, v2), (8, I (IntKind.wrap .i64 ((i : Int) + 1)))] (by kernel_rfl) (by kernel_rfl) (by kernel_rfl) (fun f' hf' => ?_)
      rw [hnext] at hf'
      exact ih (i + 1) f' h2 v2 (by omega) (by rw [hacc]; exact A2) hf'
    · have hown : ownLetter s k i = 97 := by
        unfold ownLetter
        rw [List.getElem?_eq_none (by omega)]
      rw [hown] at e2 A2 hacc
      refine Run 1000 ?_
      refine Bld 87 1 [(0, .int .u8 97)] (.slice (some ⟨h.length, 0, some 1⟩) 1 1) (h ++ [AObj.row [.int .u8 (97 : UInt8).toNat] true]) (by kernel_rfl) (by kernel_rfl) (by simp [abuildSlice, ti87, ti5, zerosOf, afill, splice, isCell, Value.cells, isData]) ?_
      refine Run 1000 ?_
      refine App 87 87 v (.slice (some ⟨h.length, 0, some 1⟩) 1 1) v2 h2 (by kernel_rfl) (by kernel_rfl) u87 (by simp) e2 ?_
      refine Run 1000 ?_
      refine Fin_goto (lpN Tryd.f40 0) h2 [(0, .string s), (1, I k), (2, I n), (7, v2), (8, I (IntKind.wrap .i64 ((i : Int) + 1)))] (by kernel_rfl) (by kernel_rfl) (by kernel_rfl) (fun f' hf' => ?_)
      rw [hnext] at hf'
      exact ih (i + 1) f' h2 v2 (by omega) (by rw [hacc]; exact A2) hf'
theorem ow_spec {X : Ext} (hX : X 40 = none) (s : ByteArray) (hs : s.size ≤ 9223372036854775807) (k n : Nat) (hk1 : 1 ≤ k) (hk : k ≤ 4) (hn1 : 1 ≤ n) (hn : n ≤ 1000) (h : AHeap) :
    Ca Tryd.prog X (.fn 40) [.string s, I k, I n] h (fun v h' => v = .string (gB (ownWord s k n)) ∧ Grew h h') := by
  refine Ca_fn (fn := Tryd.f40) (c := Tryd.f40.body.getD .skip) hX (by kernel_rfl) (by kernel_rfl) (by kernel_rfl) ?_
  refine Run 1000 ?_
  refine Fin_goto (lpN Tryd.f40 0) h [(0, .string s), (1, I k), (2, I n), (7, .slice none 0 0), (8, I (0 : Nat))] (by kernel_rfl) (by kernel_rfl) (by kernel_rfl) (fun f' hf' => ?_)
  exact ow_loop h s hs k n hk1 hk hn1 hn n 0 f' h _ (by omega) ⟨Nat.le_refl _, fun _ _ => rfl, Or.inl ⟨rfl, rfl⟩⟩ hf'
theorem ownLetter_mem (s : ByteArray) {k : Nat} (hk1 : 1 ≤ k) (hk : k ≤ 4) (i : Nat) : ownLetter s k i ∈ lettersL k := by
  rw [← List.contains_iff_mem, letter_iff hk, decide_eq_true_iff]
  unfold ownLetter
  split
  · rename_i c _
    have hm : c.toNat % k < k := Nat.mod_lt _ (by omega)
    simp only [UInt8.toNat_ofNat']
    omega
  · have : (97 : UInt8).toNat = 97 := by decide
    omega
end Go.Proofs.YtpbmpdocgplhpaaDoor
