/-
  tide: Check, openHour, has and Has compute what plain functions compute.
-/
import Derived.Test.YtpbmpdocgplhpaaGreatDoorVc12
import Derived.Test.YtpbmpdocgplhpaaGreatDoorVc13
import Derived.Test.YtpbmpdocgplhpaaGreatDoorYpl
import Derived.Test.YtpbmpdocgplhpaaGreatDoorProg
set_option linter.unusedSimpArgs false
set_option linter.unusedVariables false
set_option maxRecDepth 100000
namespace Go.Proofs.YtpbmpdocgplhpaaGreatDoor
open Go Go.AM

abbrev I (n : Int) : Value := .int .i64 n
theorem ti3 : ti Tryz.prog 3 = some ⟨.int .i64, 1, 8, .int .i64 0⟩ := by kernel_rfl
theorem ti9 : ti Tryz.prog 9 = some ⟨.string, 1, 16, .string .empty⟩ := by kernel_rfl
noncomputable def it31 : TI := (ti Tryz.prog 31).getD ⟨.bool, 0, 0, .bool true⟩
theorem ti31 : ti Tryz.prog 31 = some it31 := by kernel_rfl
theorem it31_agg : it31.isAgg = true := by kernel_rfl
theorem it31_size : it31.size = 2 := by kernel_rfl
/-- What a call leaves behind: nothing of what was is changed. -/
def Grew (h h' : AHeap) : Prop := ∃ g, h' = h ++ g
theorem Grew.refl (h : AHeap) : Grew h h := ⟨[], by simp⟩
theorem Grew.trans {a b c : AHeap} (x : Grew a b) (y : Grew b c) : Grew a c := by
  obtain ⟨g, rfl⟩ := x; obtain ⟨g2, rfl⟩ := y; exact ⟨g ++ g2, by simp⟩
theorem Grew.new (h : AHeap) (g : AHeap) : Grew h (h ++ g) := ⟨g, rfl⟩
theorem Grew.at {h h' : AHeap} (G : Grew h h') {b : Nat} {o : AObj} (hb : h[b]? = some o) : h'[b]? = some o := by
  obtain ⟨g, rfl⟩ := G
  rw [List.getElem?_append_left (List.getElem?_eq_some_iff.1 hb).1]; exact hb
theorem new_at (h : AHeap) (o : AObj) : (h ++ [o])[h.length]? = some o := by simp
theorem load_row {P : Program} {h : AHeap} {t b o : Nat} {it : TI} {cs : List Value} {own : Bool} {v : Value} (ht : ti P t = some it) (ha : it.isAgg = false) (hb : h[b]? = some (.row cs own)) (hv : cs[o]? = some v) :
    aload P h t (.pointer (some ⟨b, o, none⟩)) = some v := by
  simp [aload, ht, ha, load1, cells?, hb, hv]
theorem load_agg {P : Program} {h : AHeap} {t b o n : Nat} {it : TI} {cs : List Value} {own : Bool} (ht : ti P t = some it) (ha : it.isAgg = true) (hn : it.size = n) (hb : h[b]? = some (.row cs own)) (hl : o + n ≤ cs.length) :
    aload P h t (.pointer (some ⟨b, o, none⟩)) = some (.agg ((cs.drop o).take n).toArray) := by
  subst hn
  simp [aload, ht, ha, loadN, cells?, hb, hl]

/-- What is wrong with a tide. -/
def tideE (a b : ByteArray) : Int := if a.size > 60 ∨ b.size < 1 ∨ b.size > 60 ∨ trimF (a ++ b) ⟨#[48, 49]⟩ ≠ .empty then 10 else 0
abbrev tideV (a b : ByteArray) : Value := .agg #[.string a, .string b]
def TrimX (X : Ext) : Prop := ∀ (s : ByteArray) (h : AHeap), s.size ≤ 1000 → Ca Tryz.prog X (.fn 65) [.string s, .string ⟨#[48, 49]⟩] h (fun v h' => v = .string (trimF s ⟨#[48, 49]⟩) ∧ h' = h)
theorem ba_list (s : ByteArray) : (s.data.toList == (ByteArray.mk #[]).data.toList) = decide (s = .empty) := by
  rw [Bool.eq_iff_iff, beq_iff_eq, decide_eq_true_iff]
  constructor
  · intro e; have : s.data = #[] := by apply Array.toList_inj.1; simpa using e
    cases s; simp only at this; subst this; rfl
  · intro e; subst e; rfl
theorem check_spec {X : Ext} (hX : X 31 = none) (hT : TrimX X) (a b : ByteArray) (h : AHeap) :
    Ca Tryz.prog X (.fn 31) [tideV a b] h (fun v h' => v = I (tideE a b) ∧ Grew h h') := by
  refine Ca_fn (fn := Tryz.f31) (c := Tryz.f31.body.getD .skip) hX (by kernel_rfl) (by kernel_rfl) (by kernel_rfl) ?_
  have hb : (h ++ [AObj.row [.string a, .string b] true])[h.length]? = some (.row [.string a, .string b] true) := new_at h _
  have bad : ∀ {p : Prop}, p → (p → a.size > 60 ∨ b.size < 1 ∨ b.size > 60 ∨ trimF (a ++ b) ⟨#[48, 49]⟩ ≠ .empty) → I 10 = I (tideE a b) := by
    intro p hp k; rw [tideE, if_pos (k hp)]
  refine Run 1000 ?_
  refine Box (tideV a b) (by kernel_rfl) (by kernel_rfl) rfl ?_
  refine Run 1000 ?_
  refine PureV (.pointer (some ⟨h.length, 0, none⟩)) (by kernel_rfl) (by kernel_rfl) (by kernel_rfl) ?_
  refine Run 1000 ?_
  refine Load 9 (.pointer (some ⟨h.length, 0, none⟩)) (.string a) (by kernel_rfl) (by kernel_rfl) (load_row ti9 rfl hb rfl) ?_
  refine Run 1000 ?_
  refine Fin_g ((a.size : Int) > 60) (by kernel_rfl) (by kernel_rfl) (fun h4 => ?_) (fun h4 => ?_)
  · refine RunA 1000 3 ?_
    exact Fin_r (by kernel_rfl) ⟨Or.inr rfl, (I 10), by kernel_rfl, bad h4 (by omega), Grew.new _ _⟩
  · refine Run 1000 ?_
    refine PureV (.pointer (some ⟨h.length, 1, none⟩)) (by kernel_rfl) (by kernel_rfl) (by kernel_rfl) ?_
    refine Run 1000 ?_
    refine Load 9 (.pointer (some ⟨h.length, 1, none⟩)) (.string b) (by kernel_rfl) (by kernel_rfl) (load_row ti9 rfl hb rfl) ?_
    refine Run 1000 ?_
    refine Fin_g ((b.size : Int) < 1) (by kernel_rfl) (by kernel_rfl) (fun h7 => ?_) (fun h7 => ?_)
    · refine RunA 1000 2 ?_
      exact Fin_r (by kernel_rfl) ⟨Or.inr rfl, (I 10), by kernel_rfl, bad h7 (by omega), Grew.new _ _⟩
    · refine Run 1000 ?_
      refine PureV (.pointer (some ⟨h.length, 1, none⟩)) (by kernel_rfl) (by kernel_rfl) (by kernel_rfl) ?_
      refine Run 1000 ?_
      refine Load 9 (.pointer (some ⟨h.length, 1, none⟩)) (.string b) (by kernel_rfl) (by kernel_rfl) (load_row ti9 rfl hb rfl) ?_
      refine Run 1000 ?_
      refine Fin_g ((b.size : Int) > 60) (by kernel_rfl) (by kernel_rfl) (fun h10 => ?_) (fun h10 => ?_)
      · refine RunA 1000 1 ?_
        exact Fin_r (by kernel_rfl) ⟨Or.inr rfl, (I 10), by kernel_rfl, bad h10 (by omega), Grew.new _ _⟩
      · refine Run 1000 ?_
        refine PureV (.pointer (some ⟨h.length, 0, none⟩)) (by kernel_rfl) (by kernel_rfl) (by kernel_rfl) ?_
        refine Run 1000 ?_
        refine Load 9 (.pointer (some ⟨h.length, 0, none⟩)) (.string a) (by kernel_rfl) (by kernel_rfl) (load_row ti9 rfl hb rfl) ?_
        refine Run 1000 ?_
        refine PureV (.pointer (some ⟨h.length, 1, none⟩)) (by kernel_rfl) (by kernel_rfl) (by kernel_rfl) ?_
        refine Run 1000 ?_
        refine Load 9 (.pointer (some ⟨h.length, 1, none⟩)) (.string b) (by kernel_rfl) (by kernel_rfl) (load_row ti9 rfl hb rfl) ?_
        refine Run 1000 ?_
        refine Bin .add 9 (.string a) (.string b) (.string (a ++ b)) (by kernel_rfl) (by kernel_rfl) (by simp only [abin, astr]; rw [if_pos (by omega)]) ?_
        refine Run 1000 ?_
        refine Fin_call 65 [.string (a ++ b), .string ⟨#[48, 49]⟩] (by kernel_rfl) (by kernel_rfl) (hT (a ++ b) _ (by rw [ByteArray.size_append]; omega)) (fun v16 hh16 hv16 => ?_)
        obtain ⟨rfl, rfl⟩ := hv16
        refine Run 1000 ?_
        refine Fin_c2 (!((trimF (a ++ b) ⟨#[48, 49]⟩).data.toList == (ByteArray.mk #[]).data.toList)) (by kernel_rfl) (fun h17 => ?_) (fun h17 => ?_)
        · rw [ba_list, Bool.not_eq_true', decide_eq_false_iff_not] at h17
          refine Run 1000 ?_
          exact Fin_r (by kernel_rfl) ⟨Or.inr rfl, (I 10), by kernel_rfl, bad h17 (fun h => Or.inr (Or.inr (Or.inr h))), Grew.new _ _⟩
        · rw [ba_list, Bool.not_eq_false', decide_eq_true_iff] at h17
          refine Run 1000 ?_
          refine Fin_r (by kernel_rfl) ⟨Or.inr rfl, (I 0), by kernel_rfl, ?_, Grew.new _ _⟩
          rw [tideE, if_neg (by rintro (h | h | h | h)
                                · omega
                                · omega
                                · omega
                                · exact h h17)]

/-- What is wrong with a tide, or with an hour. -/
def hourE (a b : ByteArray) (n : Int) : Int := if tideE a b ≠ 0 then tideE a b else if n < 0 ∨ n > 1000000000 then 1 else 0
theorem openHour_spec {X : Ext} (hX36 : X 36 = none) (hX : X 31 = none) (hT : TrimX X) (a b : ByteArray) (n : Int) (h : AHeap) :
    Ca Tryz.prog X (.fn 36) [tideV a b, I n] h (fun v h' => v = I (hourE a b n) ∧ Grew h h') := by
  refine Ca_fn (fn := Tryz.f36) (c := Tryz.f36.body.getD .skip) hX36 (by kernel_rfl) (by kernel_rfl) (by kernel_rfl) ?_
  refine Run 1000 ?_
  refine Box (tideV a b) (by kernel_rfl) (by kernel_rfl) rfl ?_
  refine Run 1000 ?_
  refine Load 31 (.pointer (some ⟨h.length, 0, none⟩)) (tideV a b) (by kernel_rfl) (by kernel_rfl) (load_agg ti31 it31_agg it31_size (new_at h _) (Nat.le_refl 2)) ?_
  refine Run 1000 ?_
  refine Fin_call 31 [tideV a b] (by kernel_rfl) (by kernel_rfl) (check_spec hX hT a b _) (fun v3 hh3 hv3 => ?_)
  obtain ⟨rfl, G⟩ := hv3
  have G : Grew h hh3 := (Grew.new h _).trans G
  refine Run 1000 ?_
  refine Fin_c2 (!(tideE a b == 0)) (by kernel_rfl) (fun h5 => ?_) (fun h5 => ?_)
  · have h5 : tideE a b ≠ 0 := by simpa using h5
    refine Run 1000 ?_
    exact Fin_r (by kernel_rfl) ⟨Or.inr rfl, I (tideE a b), by kernel_rfl, by rw [hourE, if_pos h5], G⟩
  · have h5 : tideE a b = 0 := by simpa using h5
    refine Run 1000 ?_
    refine Fin_g (n < 0) (by kernel_rfl) (by kernel_rfl) (fun h6 => ?_) (fun h6 => ?_)
    · refine RunA 1000 1 ?_
      exact Fin_r (by kernel_rfl) ⟨Or.inr rfl, (I 1), by kernel_rfl, by rw [hourE, if_neg (by simpa using h5), if_pos (Or.inl h6)], G⟩
    · refine Run 1000 ?_
      refine Fin_c (n > 1000000000) (by kernel_rfl) (fun h7 => ?_) (fun h7 => ?_)
      · refine Run 1000 ?_
        exact Fin_r (by kernel_rfl) ⟨Or.inr rfl, (I 1), by kernel_rfl, by rw [hourE, if_neg (by simpa using h5), if_pos (Or.inr h7)], G⟩
      · refine Run 1000 ?_
        exact Fin_r (by kernel_rfl) ⟨Or.inr rfl, (I 0), by kernel_rfl, by rw [hourE, if_neg (by simpa using h5), if_neg (by omega)], G⟩

/-- Whether an hour is in a tide. -/
def hasF (a b : ByteArray) (n : Nat) : Bool := if n < a.size then a[n]? == some 49 else b[(n - a.size) % b.size]? == some 49
theorem ti5 : ti Tryz.prog 5 = some ⟨.int .u8, 1, 1, .int .u8 0⟩ := by kernel_rfl
theorem byte_eq (c : UInt8) : (((c.toNat : Int) == 49) : Bool) = (some c == some (49 : UInt8)) := by
  rw [Bool.eq_iff_iff]
  simp only [beq_iff_eq, Option.some.injEq]
  constructor
  · intro e; apply UInt8.toNat.inj; have : c.toNat = 49 := by omega
    rw [this]; rfl
  · rintro rfl; rfl
theorem has_spec {X : Ext} (hX : X 33 = none) (a b : ByteArray) (n : Nat) (h : AHeap) (ha : a.size ≤ 60) (hb1 : 1 ≤ b.size) (hb : b.size ≤ 60) (hn : n ≤ 2000000000) :
    Ca Tryz.prog X (.fn 33) [tideV a b, I n] h (fun v h' => v = .bool (hasF a b n) ∧ Grew h h') := by
  refine Ca_fn (fn := Tryz.f33) (c := Tryz.f33.body.getD .skip) hX (by kernel_rfl) (by kernel_rfl) (by kernel_rfl) ?_
  have hr : (h ++ [AObj.row [.string a, .string b] true])[h.length]? = some (.row [.string a, .string b] true) := new_at h _
  refine Run 1000 ?_
  refine Box (tideV a b) (by kernel_rfl) (by kernel_rfl) rfl ?_
  refine Run 1000 ?_
  refine PureV (.pointer (some ⟨h.length, 0, none⟩)) (by kernel_rfl) (by kernel_rfl) (by kernel_rfl) ?_
  refine Run 1000 ?_
  refine Load 9 (.pointer (some ⟨h.length, 0, none⟩)) (.string a) (by kernel_rfl) (by kernel_rfl) (load_row ti9 rfl hr rfl) ?_
  refine Run 1000 ?_
  refine Fin_c ((n : Int) < a.size) (by kernel_rfl) (fun h4 => ?_) (fun h4 => ?_)
  · have h4' : n < a.size := by omega
    refine Run 1000 ?_
    refine PureV (.pointer (some ⟨h.length, 0, none⟩)) (by kernel_rfl) (by kernel_rfl) (by kernel_rfl) ?_
    refine Run 1000 ?_
    refine Load 9 (.pointer (some ⟨h.length, 0, none⟩)) (.string a) (by kernel_rfl) (by kernel_rfl) (load_row ti9 rfl hr rfl) ?_
    refine Run 1000 ?_
    refine IdxS 9 a .i64 n (a[n]'h4') (by kernel_rfl) (by kernel_rfl) ti9 rfl (by omega) (by rw [Int.toNat_natCast]; exact getElem?_pos a n h4') ?_
    refine Run 1000 ?_
    refine Fin_r (by kernel_rfl) ⟨Or.inr rfl, (.bool (((a[n]'h4').toNat : Int) == 49)), by kernel_rfl, ?_, Grew.new _ _⟩
    rw [hasF, if_pos h4', byte_eq, getElem?_pos a n h4']
  · refine Run 1000 ?_
    refine Draw (by kernel_rfl) ?_
    refine Run 1000 ?_
    refine PureV (.pointer (some ⟨h.length, 1, none⟩)) (by kernel_rfl) (by kernel_rfl) (by kernel_rfl) ?_
    refine Run 1000 ?_
    refine Load 9 (.pointer (some ⟨h.length, 1, none⟩)) (.string b) (by kernel_rfl) (by kernel_rfl) (load_row ti9 rfl hr rfl) ?_
    refine Run 1000 ?_
    refine PureV (.pointer (some ⟨h.length, 0, none⟩)) (by kernel_rfl) (by kernel_rfl) (by kernel_rfl) ?_
    refine Run 1000 ?_
    refine Load 9 (.pointer (some ⟨h.length, 0, none⟩)) (.string a) (by kernel_rfl) (by kernel_rfl) (load_row ti9 rfl hr rfl) ?_
    refine Run 1000 ?_
    refine PureV (.pointer (some ⟨h.length, 1, none⟩)) (by kernel_rfl) (by kernel_rfl) (by kernel_rfl) ?_
    refine Run 1000 ?_
    refine Load 9 (.pointer (some ⟨h.length, 1, none⟩)) (.string b) (by kernel_rfl) (by kernel_rfl) (load_row ti9 rfl hr rfl) ?_
    refine Run 1000 ?_
    have hm : (n - a.size) % b.size < b.size := Nat.mod_lt _ (by omega)
    have hw : IntKind.wrap .i64 ((n : Int) - a.size) = ((n - a.size : Nat) : Int) := by
      simp [IntKind.wrap, IntKind.bits, IntKind.signed]; omega
    refine Bin .rem 3 (I (IntKind.wrap .i64 ((n : Int) - a.size))) (I b.size) (I ((n - a.size) % b.size : Nat)) (by kernel_rfl) (by kernel_rfl) (by
      rw [hw]; simp only [abin, aint, if_true]; rw [if_neg (by omega)]; rfl) ?_
    refine Run 1000 ?_
    refine IdxS 9 b .i64 ((n - a.size) % b.size : Nat) (b[(n - a.size) % b.size]'hm) (by kernel_rfl) (by kernel_rfl) ti9 rfl (by omega) (by rw [Int.toNat_natCast]; exact getElem?_pos b _ hm) ?_
    refine Run 1000 ?_
    refine Fin_r (by kernel_rfl) ⟨Or.inr rfl, (.bool (((b[(n - a.size) % b.size]'hm).toNat : Int) == 49)), by kernel_rfl, ?_, Grew.new _ _⟩
    rw [hasF, if_neg (by omega), byte_eq, getElem?_pos b _ hm]
theorem tideE_zero {a b : ByteArray} (h : tideE a b = 0) : a.size ≤ 60 ∧ 1 ≤ b.size ∧ b.size ≤ 60 := by
  unfold tideE at h
  split at h
  · simp at h
  · omega
/-- What 'Has' answers. -/
def hasA (a b : ByteArray) (n : Int) : Value := .tuple #[.bool (decide (hourE a b n = 0) && hasF a b n.toNat), I (hourE a b n)]
theorem Has_spec {X : Ext} (hX11 : X 11 = none) (hX33 : X 33 = none) (hX36 : X 36 = none) (hX : X 31 = none) (hT : TrimX X) (a b : ByteArray) (n : Int) (h : AHeap) :
    Ca Tryz.prog X (.fn 11) [tideV a b, I n] h (fun v h' => v = hasA a b n ∧ Grew h h') := by
  refine Ca_fn (fn := Tryz.f11) (c := Tryz.f11.body.getD .skip) hX11 (by kernel_rfl) (by kernel_rfl) (by kernel_rfl) ?_
  refine Run 1000 ?_
  refine Box (tideV a b) (by kernel_rfl) (by kernel_rfl) rfl ?_
  refine Run 1000 ?_
  refine Load 31 (.pointer (some ⟨h.length, 0, none⟩)) (tideV a b) (by kernel_rfl) (by kernel_rfl) (load_agg ti31 it31_agg it31_size (new_at h _) (Nat.le_refl 2)) ?_
  refine Run 1000 ?_
  refine Fin_call 36 [tideV a b, I n] (by kernel_rfl) (by kernel_rfl) (openHour_spec hX36 hX hT a b n _) (fun v3 hh3 hv3 => ?_)
  obtain ⟨rfl, G0⟩ := hv3
  have hr := G0.at (new_at h (AObj.row [.string a, .string b] true))
  have G1 : Grew h hh3 := (Grew.new h _).trans G0
  refine Run 1000 ?_
  refine Fin_c2 (!(hourE a b n == 0)) (by kernel_rfl) (fun h5 => ?_) (fun h5 => ?_)
  · have h5 : hourE a b n ≠ 0 := by simpa using h5
    refine Run 1000 ?_
    refine Fin_r (by kernel_rfl) ⟨Or.inr rfl, .tuple #[(.bool false), I (hourE a b n)], by kernel_rfl, ?_, G1⟩
    rw [hasA, decide_eq_false h5]; rfl
  · have h5 : hourE a b n = 0 := by simpa using h5
    have h6 := h5
    unfold hourE at h6
    split at h6
    · rename_i k; exact absurd h6 k
    · rename_i k
      split at h6
      · simp at h6
      · rename_i k2
        obtain ⟨k3, k4, k5⟩ := tideE_zero (Decidable.not_not.1 k)
        obtain ⟨m, rfl⟩ : ∃ m : Nat, n = m := ⟨n.toNat, by omega⟩
        refine Run 1000 ?_
        refine Load 31 (.pointer (some ⟨h.length, 0, none⟩)) (tideV a b) (by kernel_rfl) (by kernel_rfl) (load_agg ti31 it31_agg it31_size hr (Nat.le_refl 2)) ?_
        refine Run 1000 ?_
        refine Fin_call 33 [tideV a b, I m] (by kernel_rfl) (by kernel_rfl) (has_spec hX33 a b m _ k3 k4 k5 (by omega)) (fun v7 hh7 hv7 => ?_)
        obtain ⟨rfl, G2⟩ := hv7
        have G3 : Grew hh3 hh7 := G2
        refine Run 1000 ?_
        refine Fin_r (by kernel_rfl) ⟨Or.inr rfl, .tuple #[(.bool (hasF a b m)), (I 0)], by kernel_rfl, ?_, G1.trans G3⟩
        rw [hasA, decide_eq_true h5, h5]; rfl
end Go.Proofs.YtpbmpdocgplhpaaGreatDoor
