/-
  TopRounds, walked: its first loop; its callees' contracts by the kernel's runs.
-/
import Derived.Test.YtpbmpdocgplhpaaGreatDoorRlw
import Derived.Test.YtpbmpdocgplhpaaGreatDoorRk5
import Derived.Test.YtpbmpdocgplhpaaGreatDoorRk8
import Derived.Test.YtpbmpdocgplhpaaGreatDoorRk10
import Derived.Test.YtpbmpdocgplhpaaGreatDoorRk11
set_option linter.unusedSimpArgs false
set_option linter.unusedVariables false
set_option maxRecDepth 100000
namespace Go.Proofs.YtpbmpdocgplhpaaGreatDoor
open Go Go.AM Go.AMT

theorem rem2 {c : UInt8} {r : Nat} (h : c.toNat % 2 = r) : Int.tmod (c.toNat : Int) 2 = r := by
  rw [Int.tmod_eq_emod_of_nonneg (by omega)]
  omega
theorem add_w (l : List Bool) (x : Bool) (h : l.length ≤ 5) : abin Tryz.prog .add 9 (.string (S (wl l))) (.string ⟨#[bif x then 98 else 97]⟩) = some (.string (S (wl (l ++ [x])))) := by
  have e : (⟨#[bif x then 98 else 97]⟩ : ByteArray) = S [bif x then 98 else 97] := rfl
  simp only [abin, astr]
  rw [e, if_pos (by rw [S_size, S_size, wl_length]; simp; omega), S_append]
  simp [wl]
theorem add_b (l : List Bool) (x : Bool) (h : l.length ≤ 5) : abin Tryz.prog .add 9 (.string (S (bl l))) (.string ⟨#[bif x then 49 else 48]⟩) = some (.string (S (bl (l ++ [x])))) := by
  have e : (⟨#[bif x then 49 else 48]⟩ : ByteArray) = S [bif x then 49 else 48] := rfl
  simp only [abin, astr]
  rw [e, if_pos (by rw [S_size, S_size, bl_length]; simp; omega), S_append]
  simp [bl, bitB]
theorem bits_loop {X : Ext} (x : RX X) (hall : ∀ l : List Bool, l.length ≤ 5 → ∀ k, k < l.length → okLK l k = true) (word : ByteArray) (by' : Int) : ∀ (t i : Nat) (l : List Bool) (f : Nat → Value), i + t = min word.size 5 → l.length = i →
    Knows f [(0, .string word), (1, I by'), (5, .string (S (wl l))), (6, .string (S (bl l))), (7, I i)] →
    Fin Tryz.prog X none Tryz.f3.ntmps (lpN Tryz.f3 0) .normal ⟨f, H0⟩ (Ends fun v => v = .bool true) := by
  intro t
  induction t with
  | zero =>
    intro i l f hi hl hf
    refine Fin_known _ hf ?_
    refine Fin_unrl ?_
    refine Run 1000 ?_
    refine Fin_g ((i : Int) < word.size) (by kernel_rfl) (by kernel_rfl) (fun h1 => ?_) (fun h1 => ?_)
    · refine Run 1000 ?_
      refine Fin_c ((i : Int) < 5) (by kernel_rfl) (fun h2 => by omega) (fun h2 => ?_)
      refine Run 1 ?_
      refine Fin_goto ((lpN Tryz.f3 0).drop 2) H0 [(1, I by'), (5, .string (S (wl l))), (6, .string (S (bl l)))] (by kernel_rfl) (by kernel_rfl) (by kernel_rfl) (fun f' hf' => ?_)
      exact tail_ok x by' l (by omega) (hall l (by omega)) f' hf'
    · refine Run 1000 ?_
      refine Fin_cB false (by kernel_rfl) ?_
      refine Run 1 ?_
      refine Fin_goto ((lpN Tryz.f3 0).drop 2) H0 [(1, I by'), (5, .string (S (wl l))), (6, .string (S (bl l)))] (by kernel_rfl) (by kernel_rfl) (by kernel_rfl) (fun f' hf' => ?_)
      exact tail_ok x by' l (by omega) (hall l (by omega)) f' hf'
  | succ t ih =>
    intro i l f hi hl hf
    have hlt : i < word.size := by omega
    have hw : IntKind.wrap .i64 ((i : Int) + 1) = ((i + 1 : Nat) : Int) := by simp [IntKind.wrap, IntKind.bits, IntKind.signed]; omega
    refine Fin_known _ hf ?_
    refine Fin_unrl ?_
    refine Run 1000 ?_
    refine Fin_g ((i : Int) < word.size) (by kernel_rfl) (by kernel_rfl) (fun h1 => ?_) (fun h1 => by omega)
    refine Run 1000 ?_
    refine Fin_c ((i : Int) < 5) (by kernel_rfl) (fun h2 => ?_) (fun h2 => by omega)
    rcases Nat.mod_two_eq_zero_or_one (word[i]'hlt).toNat with hr | hr
    · refine Run 1000 ?_
      refine Draw (by kernel_rfl) ?_
      refine Run 1000 ?_
      refine IdxS 9 word .i64 i (word[i]'hlt) (by kernel_rfl) (by kernel_rfl) ti9 rfl (by omega) (by rw [Int.toNat_natCast]; exact getElem?_pos word i hlt) ?_
      refine Run 1000 ?_
      refine IdxS 9 word .i64 i (word[i]'hlt) (by kernel_rfl) (by kernel_rfl) ti9 rfl (by omega) (by rw [Int.toNat_natCast]; exact getElem?_pos word i hlt) ?_
      refine Run 1000 ?_
      refine Slic 9 (.string ⟨#[97, 98]⟩) (.string ⟨#[97]⟩) (some (.int .u8 (Int.tmod ((word[i]'hlt).toNat : Int) 2))) (some (.int .u8 (IntKind.wrap .u8 (Int.tmod ((word[i]'hlt).toNat : Int) 2 + 1)))) none (by kernel_rfl) (by kernel_rfl) (by rw [rem2 hr]; kernel_rfl) ?_
      refine Run 1000 ?_
      refine Bin .add 9 (.string (S (wl l))) (.string ⟨#[97]⟩) (.string (S (wl (l ++ [false])))) (by kernel_rfl) (by kernel_rfl) (add_w l false (by omega)) ?_
      refine Run 1000 ?_
      refine Draw (by kernel_rfl) ?_
      refine Run 1000 ?_
      refine IdxS 9 word .i64 i (word[i]'hlt) (by kernel_rfl) (by kernel_rfl) ti9 rfl (by omega) (by rw [Int.toNat_natCast]; exact getElem?_pos word i hlt) ?_
      refine Run 1000 ?_
      refine IdxS 9 word .i64 i (word[i]'hlt) (by kernel_rfl) (by kernel_rfl) ti9 rfl (by omega) (by rw [Int.toNat_natCast]; exact getElem?_pos word i hlt) ?_
      refine Run 1000 ?_
      refine Slic 9 (.string ⟨#[48, 49]⟩) (.string ⟨#[48]⟩) (some (.int .u8 (Int.tmod ((word[i]'hlt).toNat : Int) 2))) (some (.int .u8 (IntKind.wrap .u8 (Int.tmod ((word[i]'hlt).toNat : Int) 2 + 1)))) none (by kernel_rfl) (by kernel_rfl) (by rw [rem2 hr]; kernel_rfl) ?_
      refine Run 1000 ?_
      refine Bin .add 9 (.string (S (bl l))) (.string ⟨#[48]⟩) (.string (S (bl (l ++ [false])))) (by kernel_rfl) (by kernel_rfl) (add_b l false (by omega)) ?_
      refine Run 1000 ?_
      refine Fin_goto (lpN Tryz.f3 0) H0 [(0, .string word), (1, I by'), (5, .string (S (wl (l ++ [false])))), (6, .string (S (bl (l ++ [false])))), (7, I (IntKind.wrap .i64 (i + 1)))] (by kernel_rfl) (by kernel_rfl) (by kernel_rfl) (fun f' hf' => ?_)
      rw [hw] at hf'
      exact ih (i + 1) (l ++ [false]) f' (by omega) (by simp; omega) hf'
    · refine Run 1000 ?_
      refine Draw (by kernel_rfl) ?_
      refine Run 1000 ?_
      refine IdxS 9 word .i64 i (word[i]'hlt) (by kernel_rfl) (by kernel_rfl) ti9 rfl (by omega) (by rw [Int.toNat_natCast]; exact getElem?_pos word i hlt) ?_
      refine Run 1000 ?_
      refine IdxS 9 word .i64 i (word[i]'hlt) (by kernel_rfl) (by kernel_rfl) ti9 rfl (by omega) (by rw [Int.toNat_natCast]; exact getElem?_pos word i hlt) ?_
      refine Run 1000 ?_
      refine Slic 9 (.string ⟨#[97, 98]⟩) (.string ⟨#[98]⟩) (some (.int .u8 (Int.tmod ((word[i]'hlt).toNat : Int) 2))) (some (.int .u8 (IntKind.wrap .u8 (Int.tmod ((word[i]'hlt).toNat : Int) 2 + 1)))) none (by kernel_rfl) (by kernel_rfl) (by rw [rem2 hr]; kernel_rfl) ?_
      refine Run 1000 ?_
      refine Bin .add 9 (.string (S (wl l))) (.string ⟨#[98]⟩) (.string (S (wl (l ++ [true])))) (by kernel_rfl) (by kernel_rfl) (add_w l true (by omega)) ?_
      refine Run 1000 ?_
      refine Draw (by kernel_rfl) ?_
      refine Run 1000 ?_
      refine IdxS 9 word .i64 i (word[i]'hlt) (by kernel_rfl) (by kernel_rfl) ti9 rfl (by omega) (by rw [Int.toNat_natCast]; exact getElem?_pos word i hlt) ?_
      refine Run 1000 ?_
      refine IdxS 9 word .i64 i (word[i]'hlt) (by kernel_rfl) (by kernel_rfl) ti9 rfl (by omega) (by rw [Int.toNat_natCast]; exact getElem?_pos word i hlt) ?_
      refine Run 1000 ?_
      refine Slic 9 (.string ⟨#[48, 49]⟩) (.string ⟨#[49]⟩) (some (.int .u8 (Int.tmod ((word[i]'hlt).toNat : Int) 2))) (some (.int .u8 (IntKind.wrap .u8 (Int.tmod ((word[i]'hlt).toNat : Int) 2 + 1)))) none (by kernel_rfl) (by kernel_rfl) (by rw [rem2 hr]; kernel_rfl) ?_
      refine Run 1000 ?_
      refine Bin .add 9 (.string (S (bl l))) (.string ⟨#[49]⟩) (.string (S (bl (l ++ [true])))) (by kernel_rfl) (by kernel_rfl) (add_b l true (by omega)) ?_
      refine Run 1000 ?_
      refine Fin_goto (lpN Tryz.f3 0) H0 [(0, .string word), (1, I by'), (5, .string (S (wl (l ++ [true])))), (6, .string (S (bl (l ++ [true])))), (7, I (IntKind.wrap .i64 (i + 1)))] (by kernel_rfl) (by kernel_rfl) (by kernel_rfl) (fun f' hf' => ?_)
      rw [hw] at hf'
      exact ih (i + 1) (l ++ [true]) f' (by omega) (by simp; omega) hf'
theorem rounds_true {X : Ext} (x : RX X) (hall : ∀ l : List Bool, l.length ≤ 5 → ∀ k, k < l.length → okLK l k = true) (word : ByteArray) (by' : Int) : Ca Tryz.prog X (.fn 3) [.string word, I by'] H0 (fun v _ => v = .bool true) := by
  refine Ca_fn (fn := Tryz.f3) (c := Tryz.f3.body.getD .skip) x.x3 (by kernel_rfl) (by kernel_rfl) (by kernel_rfl) ?_
  refine Run 1000 ?_
  refine Fin_goto (lpN Tryz.f3 0) H0 [(0, .string word), (1, I by'), (5, .string (S (wl []))), (6, .string (S (bl []))), (7, I (0 : Nat))] (by kernel_rfl) (by kernel_rfl) (by kernel_rfl) (fun f' hf' => ?_)
  exact bits_loop x hall word by' (min word.size 5) 0 [] f' (by omega) rfl hf'
end Go.Proofs.YtpbmpdocgplhpaaGreatDoor
