/-
  MERGED BY PROGRAM out of the texts DecF Over Over2 Lett OwnWord.
-/
import Derived.Test.YtpbmpdocgplhpaaGreatDoorMD
import Derived.Shelf.Unicode.DecodeLast
import Derived.Lib.TrimUEq
import Derived.Laws.RangeAny
import Derived.Test.YtpbmpdocgplhpaaGreatDoorMV
import Derived.Test.YtpbmpdocgplhpaaGreatDoorME
/-
  The last rune of a string: what is wanted of it here.
-/
set_option linter.unusedSimpArgs false
set_option linter.unusedVariables false
set_option maxRecDepth 100000
namespace Go.Proofs.YtpbmpdocgplhpaaGreatDoor
open Go Go.AM

/-- The contract of the library's function: as its proved summary says. -/
def decC : List Value → AHeap → Option (Value × AHeap) := fun args h => match args with
  | [.string s] => if s.size ≤ 9223372036854775807 then some (.tuple #[.int .i32 (Lib.decodeLastL s.data.toList).1, .int .i64 (Lib.decodeLastL s.data.toList).2], h) else none
  | _ => none
end Go.Proofs.YtpbmpdocgplhpaaGreatDoor

/-
  flag.cutLeft, cutRight and isOver.
-/
set_option linter.unusedSimpArgs false
set_option linter.unusedVariables false
set_option maxRecDepth 100000
namespace Go.Proofs.YtpbmpdocgplhpaaGreatDoor
open Go Go.AM

end Go.Proofs.YtpbmpdocgplhpaaGreatDoor

/-
  flag.cutLeft, cutRight and isOver, whole.
-/
set_option linter.unusedSimpArgs false
set_option linter.unusedVariables false
set_option maxRecDepth 100000
namespace Go.Proofs.YtpbmpdocgplhpaaGreatDoor
open Go Go.AM

/-- All letters of a string are among the first k. -/
def overF (k : Nat) (s : ByteArray) : Bool := s.data.toList.all fun c => (lettersL k).contains c
structure OverX (X : Ext) : Prop where
  x72 : X 62 = none
  x88 : X 97 = none
  x89 : X 98 = none
  x99 : X 137 = some decC
end Go.Proofs.YtpbmpdocgplhpaaGreatDoor

/-
  The reference's Letters and Word; the law's word; flag.checkWord, IsWhole, Turns, First.
-/
set_option linter.unusedSimpArgs false
set_option linter.unusedVariables false
set_option maxRecDepth 100000
namespace Go.Proofs.YtpbmpdocgplhpaaGreatDoor
open Go Go.AM

theorem letter_tab : ∀ k : Fin 5, ∀ n : Fin 256, (lettersL k).contains (UInt8.ofNat n) = decide (97 ≤ n.val ∧ n.val - 97 < k.val) := by decide +kernel
theorem letter_iff {k : Nat} (hk : k ≤ 4) (b : UInt8) : (lettersL k).contains b = decide (97 ≤ b.toNat ∧ b.toNat - 97 < k) := by
  have := letter_tab ⟨k, by omega⟩ ⟨b.toNat, UInt8.toNat_lt b⟩
  simpa using this
theorem byte_at (s : ByteArray) (i : Nat) (h : i < s.size) : s[(i : Int).toNat]? = some (s[i]'h) := by
  rw [Int.toNat_natCast]; exact getElem?_pos s i h
theorem drop_bytes (s : ByteArray) (i : Nat) (h : i < s.size) : s.data.toList.drop i = s[i]'h :: s.data.toList.drop (i + 1) := by
  have hl : s.data.toList.length = s.size := (Lib.size_eq s).symm
  rw [List.drop_eq_getElem_cons (by omega)]; rfl

theorem lett_loop {X : Ext} (k : Nat) (hk : k ≤ 4) (h : AHeap) (s : ByteArray) (hs : s.size < 1000000) :
    ∀ (t i : Nat) (f : Nat → Value), i + t = s.size → Knows f [(0, .string s), (1, I k), (5, I i)] →
    Fin Tryz.prog X none Tryz.f42.ntmps (lpN Tryz.f42 0) .normal ⟨f, h⟩ (fun e y => (e = .normal ∨ e = .ret) ∧ ∃ v, fresults Tryz.prog Tryz.f42.results.toList y = some v ∧ v = .bool ((s.data.toList.drop i).all fun c => (lettersL k).contains c) ∧ y.h = h) := by
  intro t
  induction t with
  | zero =>
    intro i f hi hf
    refine Fin_known _ hf ?_
    refine Fin_unrl ?_
    refine Run 1000 ?_
    refine Fin_c ((i : Int) < s.size) (by kernel_rfl) (fun h1 => by omega) (fun h1 => ?_)
    refine Run 1000 ?_
    refine Fin_r (by kernel_rfl) ⟨Or.inr rfl, .bool true, by kernel_rfl, ?_, rfl⟩
    rw [List.drop_of_length_le (by rw [← Lib.size_eq]; omega)]; rfl
  | succ t ih =>
    intro i f hi hf
    have hlt : i < s.size := by omega
    obtain ⟨c, hc⟩ : ∃ c, c = s[i]'hlt := ⟨_, rfl⟩
    have hat : s[(i : Int).toNat]? = some c := by rw [hc]; exact byte_at s i hlt
    have hall : ((s.data.toList.drop i).all fun c => (lettersL k).contains c) = ((lettersL k).contains c && (s.data.toList.drop (i + 1)).all fun c => (lettersL k).contains c) := by
      rw [drop_bytes s i hlt, List.all_cons, ← hc]
    have hcl := UInt8.toNat_lt c
    rw [hall, letter_iff hk c]
    refine Fin_known _ hf ?_
    refine Fin_unrl ?_
    refine Run 1000 ?_
    refine Fin_c ((i : Int) < s.size) (by kernel_rfl) (fun h1 => ?_) (fun h1 => by omega)
    refine Run 1000 ?_
    refine IdxS 9 s .i64 i c (by kernel_rfl) (by kernel_rfl) ti9 rfl (by omega) hat ?_
    refine Run 1000 ?_
    refine Fin_g ((c.toNat : Int) < 97) (by kernel_rfl) (by kernel_rfl) (fun h2 => ?_) (fun h2 => ?_)
    · refine Run 1000 ?_
      refine Fin_cB true (by kernel_rfl) ?_
      refine Run 1000 ?_
      refine Fin_r (by kernel_rfl) ⟨Or.inr rfl, .bool false, by kernel_rfl, ?_, rfl⟩
      rw [decide_eq_false (by omega)]; rfl
    · refine Run 1000 ?_
      refine IdxS 9 s .i64 i c (by kernel_rfl) (by kernel_rfl) ti9 rfl (by omega) hat ?_
      refine Run 1000 ?_
      have hw : IntKind.wrap .i64 (IntKind.wrap .u8 ((c.toNat : Int) - 97)) = c.toNat - 97 := by
        rw [wrap_u8 (by omega) (by omega), wrap_small (by omega) (by omega)]
      refine Fin_c (IntKind.wrap .i64 (IntKind.wrap .u8 ((c.toNat : Int) - 97)) ≥ k) (by kernel_rfl) (fun h3 => ?_) (fun h3 => ?_)
      · refine Run 1000 ?_
        refine Fin_r (by kernel_rfl) ⟨Or.inr rfl, .bool false, by kernel_rfl, ?_, rfl⟩
        rw [decide_eq_false (by omega)]; rfl
      · refine Run 1000 ?_
        refine Fin_goto (lpN Tryz.f42 0) h [(0, .string s), (1, I k), (5, I (IntKind.wrap .i64 ((i : Int) + 1)))] (by kernel_rfl) (by kernel_rfl) (by kernel_rfl) (fun f' hf' => ?_)
        rw [wrap_next (n := s.size) hlt (by omega)] at hf'
        have := ih (i + 1) f' (by omega) hf'
        rw [decide_eq_true (by omega), Bool.true_and]; exact this
theorem lett_spec {X : Ext} (hX : X 42 = none) (k : Nat) (hk : k ≤ 4) (s : ByteArray) (hs : s.size < 1000000) (h : AHeap) :
    Ca Tryz.prog X (.fn 42) [.string s, I k] h (fun v h' => v = .bool (overF k s) ∧ h' = h) := by
  refine Ca_fn (fn := Tryz.f42) (c := Tryz.f42.body.getD .skip) hX (by kernel_rfl) (by kernel_rfl) (by kernel_rfl) ?_
  refine Run 1000 ?_
  refine Fin_goto (lpN Tryz.f42 0) h [(0, .string s), (1, I k), (5, I (0 : Nat))] (by kernel_rfl) (by kernel_rfl) (by kernel_rfl) (fun f' hf' => ?_)
  exact lett_loop k hk h s hs s.size 0 f' (by omega) hf'
end Go.Proofs.YtpbmpdocgplhpaaGreatDoor

/-
  The law's word: a word of n letters out of any string.
-/
set_option linter.unusedSimpArgs false
set_option linter.unusedVariables false
set_option maxRecDepth 100000
namespace Go.Proofs.YtpbmpdocgplhpaaGreatDoor
open Go Go.AM

def bytesV (L : List UInt8) : List Value := L.map fun c => .int .u8 c.toNat
theorem bytesV_length (L : List UInt8) : (bytesV L).length = L.length := by simp [bytesV]
/-- v is the slice of the bytes L, in memory newer than h0 of which all is as it was. -/
structure AccB (h0 h : AHeap) (v : Value) (L : List UInt8) : Prop where
  le : h0.length ≤ h.length
  old : ∀ j, j < h0.length → h[j]? = h0[j]?
  val : (L = [] ∧ v = .slice none 0 0) ∨ ∃ b, h0.length ≤ b ∧ v = .slice (some ⟨b, 0, some 1⟩) L.length (L.length + 1) ∧ h[b]? = some (.row (bytesV L) true)
theorem AccB.grew {h0 h : AHeap} {v : Value} {L : List UInt8} (A : AccB h0 h v L) : Grew h0 h := by
  refine ⟨h.drop h0.length, ?_⟩
  apply List.ext_getElem?
  intro j
  by_cases hj : j < h0.length
  · rw [List.getElem?_append_left hj, A.old j hj]
  · rw [List.getElem?_append_right (by omega), List.getElem?_drop]
    congr 1; omega
theorem AccB.app {h0 h : AHeap} {v : Value} {L : List UInt8} (A : AccB h0 h v L) (c : UInt8) (hL : L.length < 4294967295) :
    ∃ v' h', aappend Tryz.prog (h ++ [.row [.int .u8 c.toNat] true]) 107 v (.slice (some ⟨h.length, 0, some 1⟩) 1 1) = some (v', h') ∧ AccB h0 h' v' (L ++ [c]) := by
  have hnew : loadN (h ++ [AObj.row [Value.int .u8 c.toNat] true]) h.length 0 (1 * 1) = some [.int .u8 c.toNat] := by simp [loadN, cells?]
  have hlim : L.length + 1 ≤ lim := by simp only [lim]; omega
  rcases A.val with ⟨rfl, rfl⟩ | ⟨b, hb, rfl, hr⟩
  · refine ⟨.slice (some ⟨(h ++ [AObj.row [Value.int .u8 c.toNat] true]).length, 0, some 1⟩) 1 2, (h ++ [AObj.row [Value.int .u8 c.toNat] true]) ++ [AObj.row [Value.int .u8 c.toNat] true], ?_, ⟨?_, ?_, ?_⟩⟩
    · simp only [aappend, ti87, elemsLen, ti5, loadElems, if_true, hnew]
      have e1 : decide (0 + 1 ≤ lim) = true := by decide
      simp only [e1, limBytes]
      rfl
    · have := A.le; simp; omega
    · intro j hj
      have := A.le
      rw [List.getElem?_append_left (by simp; omega), List.getElem?_append_left (by omega)]
      exact A.old j hj
    · refine Or.inr ⟨(h ++ [AObj.row [Value.int .u8 c.toNat] true]).length, by have := A.le; simp; omega, rfl, ?_⟩
      rw [List.getElem?_append_right (Nat.le_refl _)]; simp [bytesV]
  · have hbl : b < h.length := lt_of_get hr
    have hr' : (h ++ [AObj.row [Value.int .u8 c.toNat] true])[b]? = some (.row (bytesV L) true) := by rw [List.getElem?_append_left hbl]; exact hr
    have hold : loadN (h ++ [AObj.row [Value.int .u8 c.toNat] true]) b 0 (L.length * 1) = some (bytesV L) := by
      simp only [loadN, cells?, hr', bytesV_length]
      rw [if_pos (by omega)]; simp [List.take_of_length_le, bytesV_length]
    refine ⟨.slice (some ⟨(h ++ [AObj.row [Value.int .u8 c.toNat] true]).length, 0, some 1⟩) (L.length + 1) (L.length + 1 + 1), (h ++ [AObj.row [Value.int .u8 c.toNat] true]).set b AObj.dead ++ [AObj.row (bytesV L ++ [Value.int .u8 c.toNat]) true], ?_, ⟨?_, ?_, ?_⟩⟩
    · simp only [aappend, ti87, elemsLen, ti5, loadElems, if_true, hnew, hold, hr']
      have e1 : decide (L.length + 1 ≤ lim) = true := by simp [hlim]
      simp [e1, limBytes, isCell]
    · have := A.le; simp; omega
    · intro j hj
      have := A.le
      rw [List.getElem?_append_left (by simp; omega), List.getElem?_set_ne (by omega), List.getElem?_append_left (by omega)]
      exact A.old j hj
    · refine Or.inr ⟨(h ++ [AObj.row [Value.int .u8 c.toNat] true]).length, by have := A.le; simp; omega, by simp, ?_⟩
      rw [List.getElem?_append_right (by simp)]; simp [bytesV]
theorem u87 : Tryz.prog.underlying 107 = some (.slice 5) := by kernel_rfl

end Go.Proofs.YtpbmpdocgplhpaaGreatDoor
