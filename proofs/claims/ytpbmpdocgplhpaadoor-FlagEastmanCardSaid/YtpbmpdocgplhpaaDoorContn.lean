/-
  The library's strings.Contains, as a plain search; the reference's Clashes.
-/
import Derived.Test.YtpbmpdocgplhpaaDoorMH
import Derived.Lib.IndexMore
set_option linter.unusedSimpArgs false
set_option linter.unusedVariables false
set_option maxRecDepth 100000
namespace Go.Proofs.YtpbmpdocgplhpaaDoor
open Go Go.AM

theorem least_of {P : Nat → Bool} : ∀ (n : Nat), (∃ j, j ≤ n ∧ P j = true) → ∃ i, i ≤ n ∧ P i = true ∧ ∀ j, j < i → P j = false := by
  intro n
  induction n with
  | zero =>
    rintro ⟨j, hj, hp⟩
    obtain rfl : j = 0 := by omega
    exact ⟨0, Nat.le_refl _, hp, fun j h => by omega⟩
  | succ n ih =>
    intro h
    by_cases hh : ∃ j, j ≤ n ∧ P j = true
    · obtain ⟨i, h1, h2, h3⟩ := ih hh
      exact ⟨i, by omega, h2, h3⟩
    · obtain ⟨j, hj, hp⟩ := h
      obtain rfl : j = n + 1 := by
        by_cases he : j ≤ n
        · exact absurd ⟨j, he, hp⟩ hh
        · omega
      refine ⟨n + 1, Nat.le_refl _, hp, fun i hi => ?_⟩
      rw [Bool.eq_false_iff]; intro hp2
      exact hh ⟨i, by omega, hp2⟩
theorem contains_iff (s sub : List UInt8) : Lib.contains s sub = true ↔ ∃ j, j ≤ s.length ∧ Lib.occAt s sub j = true := by
  unfold Lib.contains
  rw [decide_eq_true_eq]
  by_cases h : ∃ j, j ≤ s.length ∧ Lib.occAt s sub j = true
  · obtain ⟨i, h1, h2, h3⟩ := least_of s.length h
    rw [Lib.index_first h1 h2 h3]
    exact ⟨fun _ => h, fun _ => by omega⟩
  · rw [Lib.index_none (fun j hj => by rw [Bool.eq_false_iff]; intro hp; exact h ⟨j, hj, hp⟩)]
    exact ⟨fun hh => by omega, fun hh => absurd hh h⟩

/-- The reference's Clashes, from a place on. -/
def clF (u v w : ByteArray) (p : Nat) : Bool := (List.range' p (u.size - p)).any fun p => seq ((u ++ v).extract p (p + w.size)) w
theorem clF_end (u v w : ByteArray) {p : Nat} (h : u.size ≤ p) : clF u v w p = false := by
  unfold clF; rw [show u.size - p = 0 by omega]; rfl
theorem clF_step (u v w : ByteArray) {p : Nat} (h : p < u.size) : clF u v w p = (seq ((u ++ v).extract p (p + w.size)) w || clF u v w (p + 1)) := by
  unfold clF; rw [show u.size - p = (u.size - (p + 1)) + 1 by omega, List.range'_succ, List.any_cons]
theorem clF_iff {u v w : ByteArray} {p : Nat} : clF u v w p = true ↔ ∃ a, p ≤ a ∧ a < u.size ∧ (u ++ v).extract a (a + w.size) = w := by
  unfold clF
  rw [List.any_eq_true]
  constructor
  · rintro ⟨a, ha, h⟩
    rw [List.mem_range'_1] at ha
    exact ⟨a, ha.1, by omega, seq_iff.1 h⟩
  · rintro ⟨a, h1, h2, h3⟩
    exact ⟨a, by rw [List.mem_range'_1]; omega, seq_iff.2 h3⟩

theorem extract_list (s : ByteArray) (i j : Nat) : (s.extract i j).data.toList = (s.data.toList.take j).drop i := by
  rw [ByteArray.data_extract, Array.toList_extract, List.extract_eq_take_drop, List.drop_take]
theorem isPrefix_take (sub l : List UInt8) : sub.isPrefixOf l = true ↔ l.take sub.length = sub := by
  rw [List.isPrefixOf_iff_prefix]
  constructor
  · rintro ⟨t, rfl⟩; simp
  · intro h; rw [← h]; exact List.take_prefix _ _
/-- What the program's IsClash asks of the library is what the reference's Clashes asks. -/
theorem contains_cl (u v w : ByteArray) (n : Nat) (hn : 1 ≤ n) (hu : u.size = n) (hv : v.size = n) (hw : w.size = n) :
    Lib.contains ((u ++ v).extract 1 (u.size + v.size - 1)).data.toList w.data.toList = clF u v w 1 := by
  have hlen : (u ++ v).data.toList.length = 2 * n := by rw [← Lib.size_eq, ByteArray.size_append]; omega
  have hwl : w.data.toList.length = n := by rw [← Lib.size_eq]; exact hw
  generalize hl : (u ++ v).data.toList = l at hlen
  rw [Bool.eq_iff_iff, contains_iff, clF_iff, extract_list, hl]
  have key : ∀ a, 1 ≤ a → a < n → ((u ++ v).extract a (a + w.size) = w ↔ ((l.take (a + n)).drop a) = w.data.toList) := by
    intro a h1 h2
    constructor
    · intro h
      have := congrArg (fun b : ByteArray => b.data.toList) h
      simp only [extract_list, hl, hw] at this
      exact this
    · intro h
      apply list_inj
      rw [extract_list, hl, hw]; exact h
  have hu2 : u.size + v.size - 1 = 2 * n - 1 := by omega
  rw [hu2]
  constructor
  · rintro ⟨j, hj, h⟩
    unfold Lib.occAt at h
    rw [isPrefix_take, hwl, List.drop_drop, List.drop_take, List.take_take] at h
    have hlen2 := congrArg List.length h
    rw [hwl, List.length_take, List.length_drop, hlen] at hlen2
    refine ⟨1 + j, by omega, by omega, ?_⟩
    rw [key _ (by omega) (by omega), List.drop_take]
    rw [show 1 + j + n - (1 + j) = n by omega]
    rw [← h]
    congr 1
    omega
  · rintro ⟨a, h1, h2, h⟩
    rw [key a h1 (by omega), List.drop_take, show a + n - a = n by omega] at h
    refine ⟨a - 1, by simp [hlen]; omega, ?_⟩
    unfold Lib.occAt
    rw [isPrefix_take, hwl, List.drop_drop, show 1 + (a - 1) = a by omega, List.drop_take, List.take_take, ← h]
    congr 1
    omega

theorem rcl_loop {X : Ext} (h0 : AHeap) (u v w : ByteArray) (hu : u.size ≤ 1000) (hv : v.size ≤ 1000) (hw : w.size ≤ v.size) :
    ∀ (t p : Nat) (f : Nat → Value), p + t = u.size + 1 → 1 ≤ p → Knows f [(0, .string u), (2, .string w), (7, .string (u ++ v)), (8, I p)] →
    Fin Tryd.prog X none Tryd.f69.ntmps (lpN Tryd.f69 0) .normal ⟨f, h0⟩ (fun e y => (e = .normal ∨ e = .ret) ∧ ∃ r, fresults Tryd.prog Tryd.f69.results.toList y = some r ∧ r = .bool (clF u v w p) ∧ y.h = h0) := by
  have hs : (u ++ v).size = u.size + v.size := ByteArray.size_append
  intro t
  induction t with
  | zero =>
    intro p f hp h1 hf
    refine Fin_known _ hf ?_
    refine Fin_unrl ?_
    refine Run 1000 ?_
    refine Fin_c ((p : Int) < u.size) (by kernel_rfl) (fun h2 => by omega) (fun h2 => ?_)
    refine Run 1000 ?_
    refine Fin_r (by kernel_rfl) ⟨Or.inr rfl, .bool false, by kernel_rfl, ?_, rfl⟩
    rw [clF_end u v w (by omega)]
  | succ t ih =>
    intro p f hp h1 hf
    refine Fin_known _ hf ?_
    refine Fin_unrl ?_
    refine Run 1000 ?_
    refine Fin_c ((p : Int) < u.size) (by kernel_rfl) (fun h2 => ?_) (fun h2 => ?_)
    · have hwr : IntKind.wrap .i64 ((p : Int) + w.size) = ((p + w.size : Nat) : Int) := by rw [wrap_small (by omega) (by omega)]; simp
      refine Run 1000 ?_
      refine Slic 9 (.string (u ++ v)) (.string ((u ++ v).extract p (p + w.size))) (some (I p)) (some (I (IntKind.wrap .i64 ((p : Int) + w.size)))) none (by kernel_rfl) (by kernel_rfl) (by rw [hwr]; exact slice_both _ p (p + w.size) (by omega) (by omega)) ?_
      refine Run 1000 ?_
      refine Fin_c2 (seq ((u ++ v).extract p (p + w.size)) w) (by kernel_rfl) (fun hb => ?_) (fun hb => ?_)
      · refine Run 1000 ?_
        refine Fin_r (by kernel_rfl) ⟨Or.inr rfl, .bool true, by kernel_rfl, ?_, rfl⟩
        rw [clF_step u v w (by omega), hb]; rfl
      · refine Run 1000 ?_
        refine Fin_goto (lpN Tryd.f69 0) h0 [(0, .string u), (2, .string w), (7, .string (u ++ v)), (8, I (IntKind.wrap .i64 ((p : Int) + 1)))] (by kernel_rfl) (by kernel_rfl) (by kernel_rfl) (fun f' hf' => ?_)
        rw [wrap_next (n := u.size) (by omega) (by omega)] at hf'
        rw [clF_step u v w (by omega), hb, Bool.false_or]
        exact ih (p + 1) f' (by omega) (by omega) hf'
    · refine Run 1000 ?_
      refine Fin_r (by kernel_rfl) ⟨Or.inr rfl, .bool false, by kernel_rfl, ?_, rfl⟩
      rw [clF_end u v w (by omega)]
theorem rcl_spec {X : Ext} (hX : X 69 = none) (h : AHeap) (u v w : ByteArray) (hu : u.size ≤ 1000) (hv : v.size ≤ 1000) (hw : w.size ≤ v.size) :
    Ca Tryd.prog X (.fn 69) [.string u, .string v, .string w] h (fun r h' => r = .bool (clF u v w 1) ∧ h' = h) := by
  refine Ca_fn (fn := Tryd.f69) (c := Tryd.f69.body.getD .skip) hX (by kernel_rfl) (by kernel_rfl) (by kernel_rfl) ?_
  refine Run 1000 ?_
  refine Bin .add 9 (.string u) (.string v) (.string (u ++ v)) (by kernel_rfl) (by kernel_rfl) (add_str _ _ (by omega)) ?_
  refine Run 1000 ?_
  refine Fin_goto (lpN Tryd.f69 0) h [(0, .string u), (2, .string w), (7, .string (u ++ v)), (8, I (1 : Nat))] (by kernel_rfl) (by kernel_rfl) (by kernel_rfl) (fun f' hf' => ?_)
  exact rcl_loop h u v w hu hv hw u.size 1 f' (by omega) (Nat.le_refl _) hf'
end Go.Proofs.YtpbmpdocgplhpaaDoor
