/-
  MERGED BY PROGRAM out of the texts Srt Srt2 Cmp Words Whole Rings Rings2 Rings3.
-/
import Derived.Test.YtpbmpdocgplhpaaGreatDoorMC
import Derived.Test.YtpbmpdocgplhpaaGreatDoorMV
/-
  slices.Sort of up to twelve strings: the insertion sort.
-/
set_option linter.unusedSimpArgs false
set_option linter.unusedVariables false
set_option maxRecDepth 100000
namespace Go.Proofs.YtpbmpdocgplhpaaGreatDoor
open Go Go.AM

theorem strs_get {L : List ByteArray} {i : Nat} {a : ByteArray} (h : L[i]? = some a) : (strs L)[i]? = some (.string a) := by simp [strs, h]
theorem strs_set (L : List ByteArray) (i : Nat) (a : ByteArray) (h : i < L.length) : splice (strs L) i [.string a] = strs (L.set i a) := by
  simp only [splice, strs, List.length_singleton]
  rw [List.set_eq_take_append_cons_drop, if_pos h]
  simp [List.map_take, List.map_drop]
theorem load_str {h : AHeap} {b o i : Nat} {own : Bool} {L : List ByteArray} {a : ByteArray} (hb : h[b]? = some (.row (strs L) own)) (ho : o = i) (ha : L[i]? = some a) : aload Tryz.prog h 9 (.pointer (some ⟨b, o, none⟩)) = some (.string a) := by
  subst ho; exact load_row ti9 rfl hb (strs_get ha)
theorem store_str {h0 : AHeap} {b o i : Nat} {L : List ByteArray} {a : ByteArray} (hb : b < h0.length) (ho : o = i) (hi : i < L.length) :
    astore Tryz.prog (h0.set b (.row (strs L) true)) 9 (.pointer (some ⟨b, o, none⟩)) (.string a) = some (h0.set b (.row (strs (L.set i a)) true)) := by
  subst ho
  rw [store_row (cs := strs L) ti9 rfl rfl rfl rfl (by simp [hb]) (by rw [strs_length]; exact hi), List.set_set, strs_set _ _ _ hi]
theorem wrap_pred {j : Nat} (h : 0 < j) (h2 : j < 9223372036854775807) : IntKind.wrap .i64 ((j : Int) - 1) = ((j - 1 : Nat) : Int) := by
  rw [wrap_small (by omega) (by omega)]; omega

theorem nan_spec {X : Ext} (hX : X 174 = none) (a : ByteArray) (h : AHeap) : Ca Tryz.prog X (.fn 174) [.string a] h (fun v h' => v = .bool false ∧ h' = h) := by
  refine Ca_fn (fn := Tryz.f174) (c := Tryz.f174.body.getD .skip) hX (by kernel_rfl) (by kernel_rfl) (by kernel_rfl) ?_
  refine Run 1000 ?_
  refine Fin_r (by kernel_rfl) ⟨Or.inr rfl, .bool (!(seq a a)), by kernel_rfl, ?_, rfl⟩
  simp [seq]
theorem less_spec {X : Ext} (hX : X 144 = none) (hX2 : X 174 = none) (a b : ByteArray) (h : AHeap) : Ca Tryz.prog X (.fn 144) [.string a, .string b] h (fun v h' => v = .bool (ltS a b) ∧ h' = h) := by
  refine Ca_fn (fn := Tryz.f144) (c := Tryz.f144.body.getD .skip) hX (by kernel_rfl) (by kernel_rfl) (by kernel_rfl) ?_
  refine Run 1000 ?_
  refine Fin_call 174 [.string a] (by kernel_rfl) (by kernel_rfl) (nan_spec hX2 a h) (fun v1 hh1 hv1 => ?_)
  obtain ⟨rfl, rfl⟩ := hv1
  refine Run 1000 ?_
  refine Fin_gB false (by kernel_rfl) (by kernel_rfl) ?_
  refine Run 1000 ?_
  refine Fin_gB false (by kernel_rfl) (by kernel_rfl) ?_
  refine Run 1000 ?_
  exact Fin_r (by kernel_rfl) ⟨Or.inr rfl, .bool (ltS a b), by kernel_rfl, rfl, rfl⟩

theorem ins_inner {X : Ext} (hX : X 144 = none) (hX2 : X 174 = none) {Q : AExit → FS → Prop} (h0 : AHeap) (b kk N : Nat) (hb : b < h0.length) (hN : N < 1000000) (i : Nat) (hi : i < N) :
    ∀ (j : Nat) (f : Nat → Value) (L : List ByteArray), j ≤ i → L.length = N →
    Knows f [(0, .slice (some ⟨b, 0, some 1⟩) N kk), (1, I 0), (2, I N), (6, I i), (7, I j)] →
    (∀ f', Knows f' [(0, .slice (some ⟨b, 0, some 1⟩) N kk), (1, I 0), (2, I N), (6, I (i + 1 : Nat))] → Fin Tryz.prog X none Tryz.f138.ntmps (lpN Tryz.f138 0) .normal ⟨f', h0.set b (.row (strs (sinkM ltS j L)) true)⟩ Q) →
    Fin Tryz.prog X none Tryz.f138.ntmps (lpN Tryz.f138 1) .normal ⟨f, h0.set b (.row (strs L) true)⟩ Q := by
  have hset : ∀ r, (h0.set b r)[b]? = some r := by intro r; simp [hb]
  intro j
  induction j with
  | zero =>
    intro f L hj hL hf K
    refine Fin_known _ hf ?_
    refine Fin_unrl ?_
    refine Run 1000 ?_
    refine Draw (by kernel_rfl) ?_
    refine Run 1000 ?_
    refine Fin_g (((0 : Nat) : Int) > 0) (by kernel_rfl) (by kernel_rfl) (fun h1 => by omega) (fun h1 => ?_)
    refine Run 1000 ?_
    refine Fin_cB false (by kernel_rfl) ?_
    refine Run 1000 ?_
    refine Fin_goto (lpN Tryz.f138 0) (h0.set b (.row (strs L) true)) [(0, .slice (some ⟨b, 0, some 1⟩) N kk), (1, I 0), (2, I N), (6, I (IntKind.wrap .i64 ((i : Int) + 1)))] (by kernel_rfl) (by kernel_rfl) (by kernel_rfl) (fun f' hf' => ?_)
    rw [wrap_next (n := N) hi (by omega)] at hf'
    exact K f' hf'
  | succ j ih =>
    intro f L hj hL hf K
    obtain ⟨a, ha⟩ : ∃ a, L[j + 1]? = some a := ⟨L[j + 1]'(by omega), List.getElem?_eq_getElem _⟩
    obtain ⟨c, hc⟩ : ∃ c, L[j]? = some c := ⟨L[j]'(by omega), List.getElem?_eq_getElem _⟩
    have hw : IntKind.wrap .i64 (((j + 1 : Nat) : Int) - 1) = (j : Int) := by rw [wrap_pred (by omega) (by omega)]; simp
    refine Fin_known _ hf ?_
    refine Fin_unrl ?_
    refine Run 1000 ?_
    refine Draw (by kernel_rfl) ?_
    refine Run 1000 ?_
    refine Fin_g (((j + 1 : Nat) : Int) > 0) (by kernel_rfl) (by kernel_rfl) (fun h1 => ?_) (fun h1 => by omega)
    refine Run 1000 ?_
    refine IdxA 27 b 0 1 N kk .i64 (j + 1 : Nat) (by kernel_rfl) (by kernel_rfl) ti22 rfl ti9 rfl (by omega) (by omega) ?_
    refine Run 1000 ?_
    refine Load 9 (.pointer (some ⟨b, 0 + ((j + 1 : Nat) : Int).toNat * 1, none⟩)) (.string a) (by kernel_rfl) (by kernel_rfl) (load_str (hset _) (by simp) ha) ?_
    refine Run 1000 ?_
    refine IdxA 27 b 0 1 N kk .i64 (IntKind.wrap .i64 (((j + 1 : Nat) : Int) - 1)) (by kernel_rfl) (by kernel_rfl) ti22 rfl ti9 rfl (by omega) (by omega) ?_
    refine Run 1000 ?_
    refine Load 9 (.pointer (some ⟨b, 0 + (IntKind.wrap .i64 (((j + 1 : Nat) : Int) - 1)).toNat * 1, none⟩)) (.string c) (by kernel_rfl) (by kernel_rfl) (load_str (hset _) (by rw [hw]; simp) hc) ?_
    refine Run 1000 ?_
    refine Fin_call 144 [.string a, .string c] (by kernel_rfl) (by kernel_rfl) (less_spec hX hX2 a c _) (fun v6 hh6 hv6 => ?_)
    obtain ⟨rfl, rfl⟩ := hv6
    refine Run 1000 ?_
    refine Fin_cB (ltS a c) (by kernel_rfl) ?_
    cases hlt : ltS a c with
    | true =>
      refine Run 1000 ?_
      refine Draw (by kernel_rfl) ?_
      refine Run 1000 ?_
      refine IdxA 27 b 0 1 N kk .i64 (IntKind.wrap .i64 (((j + 1 : Nat) : Int) - 1)) (by kernel_rfl) (by kernel_rfl) ti22 rfl ti9 rfl (by omega) (by omega) ?_
      refine Run 1000 ?_
      refine Load 9 (.pointer (some ⟨b, 0 + (IntKind.wrap .i64 (((j + 1 : Nat) : Int) - 1)).toNat * 1, none⟩)) (.string c) (by kernel_rfl) (by kernel_rfl) (load_str (hset _) (by rw [hw]; simp) hc) ?_
      refine Run 1000 ?_
      refine IdxA 27 b 0 1 N kk .i64 (j + 1 : Nat) (by kernel_rfl) (by kernel_rfl) ti22 rfl ti9 rfl (by omega) (by omega) ?_
      refine Run 1000 ?_
      refine Load 9 (.pointer (some ⟨b, 0 + ((j + 1 : Nat) : Int).toNat * 1, none⟩)) (.string a) (by kernel_rfl) (by kernel_rfl) (load_str (hset _) (by simp) ha) ?_
      refine Run 1000 ?_
      refine IdxA 27 b 0 1 N kk .i64 (j + 1 : Nat) (by kernel_rfl) (by kernel_rfl) ti22 rfl ti9 rfl (by omega) (by omega) ?_
      refine Run 1000 ?_
      refine Store 9 (.pointer (some ⟨b, 0 + ((j + 1 : Nat) : Int).toNat * 1, none⟩)) (.string c) (h0.set b (.row (strs (L.set (j + 1) c)) true)) (by kernel_rfl) (by kernel_rfl) (store_str hb (by simp) (by omega)) ?_
      refine Run 1000 ?_
      refine IdxA 27 b 0 1 N kk .i64 (IntKind.wrap .i64 (((j + 1 : Nat) : Int) - 1)) (by kernel_rfl) (by kernel_rfl) ti22 rfl ti9 rfl (by omega) (by omega) ?_
      refine Run 1000 ?_
      refine Store 9 (.pointer (some ⟨b, 0 + (IntKind.wrap .i64 (((j + 1 : Nat) : Int) - 1)).toNat * 1, none⟩)) (.string a) (h0.set b (.row (strs ((L.set (j + 1) c).set j a)) true)) (by kernel_rfl) (by kernel_rfl) (store_str hb (by rw [hw]; simp) (by simp; omega)) ?_
      refine Run 1000 ?_
      refine Fin_goto (lpN Tryz.f138 1) (h0.set b (.row (strs ((L.set (j + 1) c).set j a)) true)) [(0, .slice (some ⟨b, 0, some 1⟩) N kk), (1, I 0), (2, I N), (6, I i), (7, I (IntKind.wrap .i64 (((j + 1 : Nat) : Int) - 1)))] (by kernel_rfl) (by kernel_rfl) (by kernel_rfl) (fun f' hf' => ?_)
      rw [hw] at hf'
      refine ih f' _ (by omega) (by simpa using hL) hf' (fun f2 hf2 => ?_)
      have := K f2 hf2
      simpa only [sinkM, ha, hc, hlt, if_true] using this
    | false =>
      refine Run 1000 ?_
      refine Fin_goto (lpN Tryz.f138 0) (h0.set b (.row (strs L) true)) [(0, .slice (some ⟨b, 0, some 1⟩) N kk), (1, I 0), (2, I N), (6, I (IntKind.wrap .i64 ((i : Int) + 1)))] (by kernel_rfl) (by kernel_rfl) (by kernel_rfl) (fun f' hf' => ?_)
      rw [wrap_next (n := N) hi (by omega)] at hf'
      have := K f' hf'
      simpa only [sinkM, ha, hc, hlt, Bool.false_eq_true, if_false] using this
end Go.Proofs.YtpbmpdocgplhpaaGreatDoor

/-
  slices.Sort of up to twelve strings, whole; slices.Compact; sorted.
-/
set_option linter.unusedSimpArgs false
set_option linter.unusedVariables false
set_option maxRecDepth 100000
namespace Go.Proofs.YtpbmpdocgplhpaaGreatDoor
open Go Go.AM

theorem wrap_u8 {x : Int} (h0 : 0 ≤ x) (h1 : x < 256) : IntKind.wrap .u8 x = x := by
  simp [IntKind.wrap, IntKind.bits, IntKind.signed]; omega
theorem wrap_u64 {x : Int} (h0 : 0 ≤ x) (h1 : x < 18446744073709551616) : IntKind.wrap .u64 x = x := by
  simp [IntKind.wrap, IntKind.bits, IntKind.signed]; omega
theorem ins_outer {X : Ext} (hX : X 144 = none) (hX2 : X 174 = none) (h0 : AHeap) (b kk N : Nat) (hb : b < h0.length) (hN : N < 1000000) :
    ∀ (t i : Nat) (f : Nat → Value) (L : List ByteArray), i + t = N → L.length = N →
    Knows f [(0, .slice (some ⟨b, 0, some 1⟩) N kk), (1, I 0), (2, I N), (6, I i)] →
    Fin Tryz.prog X none Tryz.f138.ntmps (lpN Tryz.f138 0) .normal ⟨f, h0.set b (.row (strs L) true)⟩ (fun e y => (e = .normal ∨ e = .ret) ∧ ∃ v, fresults Tryz.prog Tryz.f138.results.toList y = some v ∧ y.h = h0.set b (.row (strs (isortM ltS t i L)) true)) := by
  intro t
  induction t with
  | zero =>
    intro i f L hi hL hf
    refine Fin_known _ hf ?_
    refine Fin_unrl ?_
    refine Run 1000 ?_
    refine Fin_c ((i : Int) < N) (by kernel_rfl) (fun h1 => by omega) (fun h1 => ?_)
    refine Run 1000 ?_
    exact Fin_e (by kernel_rfl) ⟨Or.inl rfl, .tuple #[], by kernel_rfl, rfl⟩
  | succ t ih =>
    intro i f L hi hL hf
    refine Fin_known _ hf ?_
    refine Fin_unrl ?_
    refine Run 1000 ?_
    refine Fin_c ((i : Int) < N) (by kernel_rfl) (fun h1 => ?_) (fun h1 => by omega)
    refine Run 1000 ?_
    refine Fin_goto (lpN Tryz.f138 1) (h0.set b (.row (strs L) true)) [(0, .slice (some ⟨b, 0, some 1⟩) N kk), (1, I 0), (2, I N), (6, I i), (7, I i)] (by kernel_rfl) (by kernel_rfl) (by kernel_rfl) (fun f' hf' => ?_)
    refine ins_inner hX hX2 h0 b kk N hb hN i (by omega) i f' L (Nat.le_refl i) hL hf' (fun f2 hf2 => ?_)
    exact ih (i + 1) f2 (sinkM ltS i L) (by omega) (by rw [sinkM_length]; exact hL) hf2
theorem ins_spec {X : Ext} (hX0 : X 138 = none) (hX : X 144 = none) (hX2 : X 174 = none) (h : AHeap) (b kk : Nat) (L : List ByteArray) (hb : h[b]? = some (.row (strs L) true)) (hN : L.length < 1000000) :
    Ca Tryz.prog X (.fn 138) [.slice (some ⟨b, 0, some 1⟩) L.length kk, I 0, I L.length] h (fun v h' => h' = h.set b (.row (strs (sortM ltS L)) true)) := by
  refine Ca_fn (fn := Tryz.f138) (c := Tryz.f138.body.getD .skip) hX0 (by kernel_rfl) (by kernel_rfl) (by kernel_rfl) ?_
  have hlt : b < h.length := lt_of_get hb
  have hh : h = h.set b (.row (strs L) true) := by
    apply List.ext_getElem?
    intro j
    by_cases e : b = j
    · subst e; rw [List.getElem?_set_self hlt, hb]
    · rw [List.getElem?_set_ne e]
  refine Run 1000 ?_
  refine Fin_goto (lpN Tryz.f138 0) h [(0, .slice (some ⟨b, 0, some 1⟩) L.length kk), (1, I 0), (2, I L.length), (6, I (1 : Nat))] (by kernel_rfl) (by kernel_rfl) (by kernel_rfl) (fun f' hf' => ?_)
  by_cases h1 : 1 ≤ L.length
  · have key := ins_outer hX hX2 h b kk L.length hlt hN (L.length - 1) 1 f' L (by omega) rfl hf' (X := X)
    rw [← hh] at key
    exact key
  · have hnil : L = [] := List.eq_nil_of_length_eq_zero (by omega)
    subst hnil
    refine Fin_known _ hf' ?_
    refine Fin_unrl ?_
    refine Run 1000 ?_
    refine Fin_c (((1 : Nat) : Int) < (0 : Nat)) (by kernel_rfl) (fun h1 => by omega) (fun h1 => ?_)
    refine Run 1000 ?_
    exact Fin_e (by kernel_rfl) ⟨Or.inl rfl, .tuple #[], by kernel_rfl, hh⟩

theorem len64_spec {X : Ext} (hX : X 148 = none) (x : Int) (h0 : 0 ≤ x) (h1 : x < 256) (h : AHeap) : Ca Tryz.prog X (.fn 148) [.int .u64 x] h (fun v h' => (∃ r, v = I r) ∧ h' = h) := by
  refine Ca_fn (fn := Tryz.f148) (c := Tryz.f148.body.getD .skip) hX (by kernel_rfl) (by kernel_rfl) (by kernel_rfl) ?_
  refine Run 1000 ?_
  refine Fin_c (x ≥ 4294967296) (by kernel_rfl) (fun h2 => by omega) (fun h2 => ?_)
  refine Run 1000 ?_
  refine Fin_c (x ≥ 65536) (by kernel_rfl) (fun h2 => by omega) (fun h2 => ?_)
  refine Run 1000 ?_
  refine Fin_c (x ≥ 256) (by kernel_rfl) (fun h2 => by omega) (fun h2 => ?_)
  refine Run 1000 ?_
  have hw : IntKind.wrap .u8 x = x := wrap_u8 h0 h1
  refine IdxV 9 .u8 (IntKind.wrap .u8 x) 256 (by kernel_rfl) (by kernel_rfl) ti9 rfl (by kernel_rfl) (by omega) (by omega) (fun c => ?_)
  refine Run 1000 ?_
  exact Fin_r (by kernel_rfl) ⟨Or.inr rfl, I (IntKind.wrap .i64 (0 + IntKind.wrap .i64 c.toNat)), by kernel_rfl, ⟨_, rfl⟩, rfl⟩
theorem len_spec {X : Ext} (hX0 : X 100 = none) (hX : X 148 = none) (x : Int) (h0 : 0 ≤ x) (h1 : x < 256) (h : AHeap) : Ca Tryz.prog X (.fn 100) [.int .u64 x] h (fun v h' => (∃ r, v = I r) ∧ h' = h) := by
  refine Ca_fn (fn := Tryz.f100) (c := Tryz.f100.body.getD .skip) hX0 (by kernel_rfl) (by kernel_rfl) (by kernel_rfl) ?_
  refine Run 1000 ?_
  refine Fin_cB false (by kernel_rfl) ?_
  refine Run 1000 ?_
  refine Fin_call 148 [.int .u64 x] (by kernel_rfl) (by kernel_rfl) (len64_spec hX x h0 h1 h) (fun v1 hh1 hv1 => ?_)
  obtain ⟨⟨r, rfl⟩, rfl⟩ := hv1
  refine Run 1000 ?_
  exact Fin_r (by kernel_rfl) ⟨Or.inr rfl, I r, by kernel_rfl, ⟨_, rfl⟩, rfl⟩

theorem pdq_small {X : Ext} (hX91 : X 99 = none) (hX0 : X 138 = none) (hX : X 144 = none) (hX2 : X 174 = none) (h : AHeap) (b kk : Nat) (lm : Int) (L : List ByteArray) (hb : h[b]? = some (.row (strs L) true)) (hN : L.length ≤ 12) :
    Ca Tryz.prog X (.fn 99) [.slice (some ⟨b, 0, some 1⟩) L.length kk, I 0, I L.length, I lm] h (fun v h' => h' = h.set b (.row (strs (sortM ltS L)) true)) := by
  refine Ca_fn (fn := Tryz.f99) (c := Tryz.f99.body.getD .skip) hX91 (by kernel_rfl) (by kernel_rfl) (by kernel_rfl) ?_
  refine Run 1000 ?_
  refine Fin_unrl ?_
  refine Run 1000 ?_
  have hw : IntKind.wrap .i64 ((L.length : Int) - 0) = L.length := by rw [wrap_small (by omega) (by omega)]; omega
  refine Fin_c (IntKind.wrap .i64 ((L.length : Int) - 0) ≤ 12) (by kernel_rfl) (fun h1 => ?_) (fun h1 => by omega)
  refine Run 1000 ?_
  refine Fin_call 138 [.slice (some ⟨b, 0, some 1⟩) L.length kk, I 0, I L.length] (by kernel_rfl) (by kernel_rfl) (ins_spec hX0 hX hX2 h b kk L hb (by omega)) (fun v2 hh2 hv2 => ?_)
  refine Run 1000 ?_
  exact Fin_r (by kernel_rfl) ⟨Or.inr rfl, .tuple #[], by kernel_rfl, hv2⟩

structure SortN (X : Ext) : Prop where
  x78 : X 63 = none
  x92 : X 100 = none
  x110 : X 148 = none
  x91 : X 99 = none
  x100 : X 138 = none
  x106 : X 144 = none
  x129 : X 174 = none
  x79 : X 64 = none
  x64 : X 29 = none
/-- What is asked of the sort of up to twelve strings. -/
structure SortX (X : Ext) : Prop where
  srt : ∀ (h : AHeap) (b kk : Nat) (L : List ByteArray), h[b]? = some (.row (strs L) true) → L.length ≤ 12 → Ca Tryz.prog X (.fn 63) [.slice (some ⟨b, 0, some 1⟩) L.length kk] h (fun v h' => h' = h.set b (.row (strs (sortM ltS L)) true))
  x79 : X 64 = none
  x64 : X 29 = none
theorem sort_n {X : Ext} (x : SortN X) (h : AHeap) (b kk : Nat) (L : List ByteArray) (hb : h[b]? = some (.row (strs L) true)) (hN : L.length ≤ 12) :
    Ca Tryz.prog X (.fn 63) [.slice (some ⟨b, 0, some 1⟩) L.length kk] h (fun v h' => h' = h.set b (.row (strs (sortM ltS L)) true)) := by
  refine Ca_fn (fn := Tryz.f63) (c := Tryz.f63.body.getD .skip) x.x78 (by kernel_rfl) (by kernel_rfl) (by kernel_rfl) ?_
  refine Run 1000 ?_
  have hw : IntKind.wrap .u64 (L.length : Int) = L.length := wrap_u64 (by omega) (by omega)
  refine Fin_call 100 [.int .u64 (IntKind.wrap .u64 (L.length : Int))] (by kernel_rfl) (by kernel_rfl) (len_spec x.x92 x.x110 _ (by omega) (by omega) h) (fun v1 hh1 hv1 => ?_)
  obtain ⟨⟨r, rfl⟩, rfl⟩ := hv1
  refine Run 1000 ?_
  refine Fin_call 99 [.slice (some ⟨b, 0, some 1⟩) L.length kk, I 0, I L.length, I r] (by kernel_rfl) (by kernel_rfl) (pdq_small x.x91 x.x100 x.x106 x.x129 _ b kk r L hb hN) (fun v2 hh2 hv2 => ?_)
  refine Run 1000 ?_
  exact Fin_e (by kernel_rfl) ⟨Or.inl rfl, .tuple #[], by kernel_rfl, hv2⟩
theorem SortN.x {X : Ext} (x : SortN X) : SortX X := ⟨sort_n x, x.x79, x.x64⟩
theorem sort_small {X : Ext} (x : SortX X) (h : AHeap) (b kk : Nat) (L : List ByteArray) (hb : h[b]? = some (.row (strs L) true)) (hN : L.length ≤ 12) :
    Ca Tryz.prog X (.fn 63) [.slice (some ⟨b, 0, some 1⟩) L.length kk] h (fun v h' => h' = h.set b (.row (strs (sortM ltS L)) true)) := x.srt h b kk L hb hN
end Go.Proofs.YtpbmpdocgplhpaaGreatDoor

/-
  slices.Compact of strings; sorted.
-/
set_option linter.unusedSimpArgs false
set_option linter.unusedVariables false
set_option maxRecDepth 100000
namespace Go.Proofs.YtpbmpdocgplhpaaGreatDoor
open Go Go.AM

theorem zeros_str : ∀ n : Nat, zerosOf [Value.string .empty] n = strs (List.replicate n ByteArray.empty) := by
  intro n
  induction n with
  | zero => rfl
  | succ n ih => simp only [zerosOf, ih, strs, List.replicate_succ, List.map_cons]; rfl
theorem strs_cell (L : List ByteArray) : (strs L).all isCell = true := by simp [strs, isCell]
theorem clear_str {h0 : AHeap} {b k kk : Nat} {L : List ByteArray} (hb : b < h0.length) (hk : k ≤ L.length) :
    ∃ L', aclear Tryz.prog (h0.set b (.row (strs L) true)) 27 (.slice (some ⟨b, 0 + k * 1, some 1⟩) (L.length - k) kk) = some (h0.set b (.row (strs L') true)) ∧ L'.length = L.length ∧ L'.take k = L.take k := by
  by_cases h : L.length - k = 0
  · exact ⟨L, by simp only [aclear, Tryz.underlying27, ti9, h, if_true], rfl, rfl⟩
  · refine ⟨L.take k ++ List.replicate (L.length - k) ByteArray.empty, ?_, by simp; omega, ?_⟩
    · have hg : (h0.set b (.row (strs L) true))[b]? = some (.row (strs L) true) := by simp [hb]
      have hz : zerosOf (Value.string ByteArray.empty).cells.toList (L.length - k) = strs (List.replicate (L.length - k) ByteArray.empty) := zeros_str _
      simp only [aclear, Tryz.underlying27, ti9, h, if_false]
      rw [if_pos (by simp), hz]
      simp only [storeN, hg, strs_cell, strs_length, List.length_replicate, Bool.and_true]
      rw [if_pos (by simp; omega), List.set_set]
      congr 3
      simp only [splice, strs_length, List.length_replicate]
      rw [List.drop_of_length_le (by rw [strs_length]; omega)]
      simp [strs]
    · rw [List.take_append_of_le_length (by simp; omega)]; simp [List.take_take]
theorem slice_str (b N kk k : Nat) (hk : k ≤ N) : aslice Tryz.prog 27 (.slice (some ⟨b, 0, some 1⟩) N kk) (some (I k)) none none = some (.slice (some ⟨b, 0 + k * 1, some 1⟩) (N - k) (if kk = N ∧ N = N then N - k else N - k + 1)) := by
  simp only [aslice, ti22, ti9, abound, asIdx]
  rw [if_pos ⟨by omega, by omega⟩]
  simp
theorem slice_stl (b N kk k : Nat) (hk : k ≤ N) : aslice Tryz.prog 27 (.slice (some ⟨b, 0, some 1⟩) N kk) none (some (I k)) none = some (.slice (some ⟨b, 0, some 1⟩) k (if kk = N ∧ k = N then k else k + 1)) := by
  simp only [aslice, ti22, ti9, abound, asIdx]
  rw [if_pos ⟨by omega, by omega⟩]
  simp

/-- How Compact's loops end. -/
def CompQ (h0 : AHeap) (b N : Nat) (R : List ByteArray) (e : AExit) (y : FS) : Prop :=
  (e = .normal ∨ e = .ret) ∧ ∃ v, fresults Tryz.prog Tryz.f64.results.toList y = some v ∧ ∃ L' kk', v = .slice (some ⟨b, 0, some 1⟩) R.length kk' ∧ y.h = h0.set b (.row (strs L') true) ∧ L'.take R.length = R ∧ L'.length = N

theorem comp_inner {X : Ext} (h0 : AHeap) (b kk kk2 N k0 : Nat) (hb : b < h0.length) (hN : N < 1000000) :
    ∀ (t k j : Nat) (f : Nat → Value) (L : List ByteArray), j + t = N → k0 < j → k < j → L.length = N →
    Knows f [(0, .slice (some ⟨b, 0, some 1⟩) N kk), (3, I k), (4, .slice (some ⟨b, 0 + k0 * 1, some 1⟩) (N - k0) kk2), (5, I (j - k0 : Nat))] →
    Fin Tryz.prog X none Tryz.f64.ntmps (lpN Tryz.f64 1) .normal ⟨f, h0.set b (.row (strs L) true)⟩ (CompQ h0 b N ((compIn seq t k j L).2.take (compIn seq t k j L).1)) := by
  have hset : ∀ r, (h0.set b r)[b]? = some r := by intro r; simp [hb]
  intro t
  induction t with
  | zero =>
    intro k j f L ht h1 h2 hL hf
    refine Fin_known _ hf ?_
    refine Fin_unrl ?_
    refine Run 1000 ?_
    refine Fin_c (((j - k0 : Nat) : Int) < (N - k0 : Nat)) (by kernel_rfl) (fun h1 => by omega) (fun h1 => ?_)
    refine Run 1000 ?_
    refine Slic 27 (.slice (some ⟨b, 0, some 1⟩) N kk) _ (some (I k)) none none (by kernel_rfl) (by kernel_rfl) (slice_str b N kk k (by omega)) ?_
    refine Run 1000 ?_
    obtain ⟨L', hc, hl, ht'⟩ := clear_str (h0 := h0) (b := b) (k := k) (kk := if kk = N ∧ N = N then N - k else N - k + 1) (L := L) hb (by omega)
    rw [hL] at hc hl
    refine Clr 27 (.slice (some ⟨b, 0 + k * 1, some 1⟩) (N - k) (if kk = N ∧ N = N then N - k else N - k + 1)) _ (by kernel_rfl) (by kernel_rfl) hc ?_
    refine Run 1000 ?_
    refine Slic 27 (.slice (some ⟨b, 0, some 1⟩) N kk) _ none (some (I k)) none (by kernel_rfl) (by kernel_rfl) (slice_stl b N kk k (by omega)) ?_
    refine Run 1000 ?_
    refine Fin_r (by kernel_rfl) ⟨Or.inr rfl, .slice (some ⟨b, 0, some 1⟩) k (if kk = N ∧ k = N then k else k + 1), by kernel_rfl, L', (if kk = N ∧ k = N then k else k + 1), ?_, rfl, ?_, hl⟩
    · simp only [compIn, List.length_take, hL, Nat.min_eq_left (by omega : k ≤ N)]
    · simp only [compIn, List.length_take, hL, Nat.min_eq_left (by omega : k ≤ N)]; exact ht'
  | succ t ih =>
    intro k j f L ht h1 h2 hL hf
    obtain ⟨a, ha⟩ : ∃ a, L[j]? = some a := ⟨L[j]'(by omega), List.getElem?_eq_getElem _⟩
    obtain ⟨c, hc⟩ : ∃ c, L[j - 1]? = some c := ⟨L[j - 1]'(by omega), List.getElem?_eq_getElem _⟩
    have hw : IntKind.wrap .i64 (((j - k0 : Nat) : Int) - 1) = ((j - k0 - 1 : Nat) : Int) := wrap_pred (by omega) (by omega)
    have hw1 : IntKind.wrap .i64 (((j - k0 : Nat) : Int) + 1) = ((j + 1 - k0 : Nat) : Int) := by rw [wrap_next (n := N) (by omega) (by omega)]; congr 1; omega
    have hw2 : IntKind.wrap .i64 ((k : Int) + 1) = ((k + 1 : Nat) : Int) := wrap_next (n := N) (by omega) (by omega)
    refine Fin_known _ hf ?_
    refine Fin_unrl ?_
    refine Run 1000 ?_
    refine Fin_c (((j - k0 : Nat) : Int) < (N - k0 : Nat)) (by kernel_rfl) (fun h1 => ?_) (fun h1 => by omega)
    refine Run 1000 ?_
    refine Draw (by kernel_rfl) ?_
    refine Run 1000 ?_
    refine IdxA 27 b (0 + k0 * 1) 1 (N - k0) kk2 .i64 (j - k0 : Nat) (by kernel_rfl) (by kernel_rfl) ti22 rfl ti9 rfl (by omega) (by omega) ?_
    refine Run 1000 ?_
    refine Load 9 (.pointer (some ⟨b, 0 + k0 * 1 + ((j - k0 : Nat) : Int).toNat * 1, none⟩)) (.string a) (by kernel_rfl) (by kernel_rfl) (load_str (hset _) (by simp; omega) ha) ?_
    refine Run 1000 ?_
    refine IdxA 27 b (0 + k0 * 1) 1 (N - k0) kk2 .i64 (IntKind.wrap .i64 (((j - k0 : Nat) : Int) - 1)) (by kernel_rfl) (by kernel_rfl) ti22 rfl ti9 rfl (by omega) (by omega) ?_
    refine Run 1000 ?_
    refine Load 9 (.pointer (some ⟨b, 0 + k0 * 1 + (IntKind.wrap .i64 (((j - k0 : Nat) : Int) - 1)).toNat * 1, none⟩)) (.string c) (by kernel_rfl) (by kernel_rfl) (load_str (hset _) (by rw [hw]; simp; omega) hc) ?_
    refine Run 1000 ?_
    refine Fin_cB (!(seq a c)) (by kernel_rfl) ?_
    cases hq : seq a c with
    | false =>
      refine Run 1000 ?_
      refine IdxA 27 b (0 + k0 * 1) 1 (N - k0) kk2 .i64 (j - k0 : Nat) (by kernel_rfl) (by kernel_rfl) ti22 rfl ti9 rfl (by omega) (by omega) ?_
      refine Run 1000 ?_
      refine Load 9 (.pointer (some ⟨b, 0 + k0 * 1 + ((j - k0 : Nat) : Int).toNat * 1, none⟩)) (.string a) (by kernel_rfl) (by kernel_rfl) (load_str (hset _) (by simp; omega) ha) ?_
      refine Run 1000 ?_
      refine IdxA 27 b 0 1 N kk .i64 k (by kernel_rfl) (by kernel_rfl) ti22 rfl ti9 rfl (by omega) (by omega) ?_
      refine Run 1000 ?_
      refine Store 9 (.pointer (some ⟨b, 0 + (k : Int).toNat * 1, none⟩)) (.string a) (h0.set b (.row (strs (L.set k a)) true)) (by kernel_rfl) (by kernel_rfl) (store_str hb (by simp) (by omega)) ?_
      refine Run 1000 ?_
      refine Fin_goto (lpN Tryz.f64 1) (h0.set b (.row (strs (L.set k a)) true)) [(0, .slice (some ⟨b, 0, some 1⟩) N kk), (3, I (IntKind.wrap .i64 ((k : Int) + 1))), (4, .slice (some ⟨b, 0 + k0 * 1, some 1⟩) (N - k0) kk2), (5, I (IntKind.wrap .i64 (((j - k0 : Nat) : Int) + 1)))] (by kernel_rfl) (by kernel_rfl) (by kernel_rfl) (fun f' hf' => ?_)
      rw [hw1, hw2] at hf'
      have := ih (k + 1) (j + 1) f' (L.set k a) (by omega) (by omega) (by omega) (by simpa using hL) hf'
      simpa only [compIn, ha, hc, hq, Bool.false_eq_true, if_false] using this
    | true =>
      refine Run 1000 ?_
      refine Fin_goto (lpN Tryz.f64 1) (h0.set b (.row (strs L) true)) [(0, .slice (some ⟨b, 0, some 1⟩) N kk), (3, I k), (4, .slice (some ⟨b, 0 + k0 * 1, some 1⟩) (N - k0) kk2), (5, I (IntKind.wrap .i64 (((j - k0 : Nat) : Int) + 1)))] (by kernel_rfl) (by kernel_rfl) (by kernel_rfl) (fun f' hf' => ?_)
      rw [hw1] at hf'
      have := ih k (j + 1) f' L (by omega) (by omega) (by omega) hL hf'
      simpa only [compIn, ha, hc, hq, if_true] using this

theorem comp_outer {X : Ext} (h0 : AHeap) (b kk N : Nat) (hb : b < h0.length) (hN : N < 1000000) (L : List ByteArray) (hL : L.length = N) :
    ∀ (t k : Nat) (f : Nat → Value), k + t = N → 1 ≤ k → Knows f [(0, .slice (some ⟨b, 0, some 1⟩) N kk), (3, I k)] →
    Fin Tryz.prog X none Tryz.f64.ntmps (lpN Tryz.f64 0) .normal ⟨f, h0.set b (.row (strs L) true)⟩ (CompQ h0 b N (compOut seq t k L)) := by
  have hset : ∀ r, (h0.set b r)[b]? = some r := by intro r; simp [hb]
  intro t
  induction t with
  | zero =>
    intro k f ht h1 hf
    refine Fin_known _ hf ?_
    refine Fin_unrl ?_
    refine Run 1000 ?_
    refine Fin_c ((k : Int) < N) (by kernel_rfl) (fun h1 => by omega) (fun h1 => ?_)
    refine Run 1000 ?_
    refine Fin_r (by kernel_rfl) ⟨Or.inr rfl, .slice (some ⟨b, 0, some 1⟩) N kk, by kernel_rfl, L, kk, ?_, rfl, ?_, hL⟩
    · simp only [compOut, hL]
    · simp only [compOut]; exact List.take_length
  | succ t ih =>
    intro k f ht h1 hf
    obtain ⟨a, ha⟩ : ∃ a, L[k]? = some a := ⟨L[k]'(by omega), List.getElem?_eq_getElem _⟩
    obtain ⟨c, hc⟩ : ∃ c, L[k - 1]? = some c := ⟨L[k - 1]'(by omega), List.getElem?_eq_getElem _⟩
    have hw : IntKind.wrap .i64 ((k : Int) - 1) = ((k - 1 : Nat) : Int) := wrap_pred (by omega) (by omega)
    have hw2 : IntKind.wrap .i64 ((k : Int) + 1) = ((k + 1 : Nat) : Int) := wrap_next (n := N) (by omega) (by omega)
    refine Fin_known _ hf ?_
    refine Fin_unrl ?_
    refine Run 1000 ?_
    refine Fin_c ((k : Int) < N) (by kernel_rfl) (fun h1 => ?_) (fun h1 => by omega)
    refine Run 1000 ?_
    refine Draw (by kernel_rfl) ?_
    refine Run 1000 ?_
    refine IdxA 27 b 0 1 N kk .i64 k (by kernel_rfl) (by kernel_rfl) ti22 rfl ti9 rfl (by omega) (by omega) ?_
    refine Run 1000 ?_
    refine Load 9 (.pointer (some ⟨b, 0 + (k : Int).toNat * 1, none⟩)) (.string a) (by kernel_rfl) (by kernel_rfl) (load_str (hset _) (by simp) ha) ?_
    refine Run 1000 ?_
    refine IdxA 27 b 0 1 N kk .i64 (IntKind.wrap .i64 ((k : Int) - 1)) (by kernel_rfl) (by kernel_rfl) ti22 rfl ti9 rfl (by omega) (by omega) ?_
    refine Run 1000 ?_
    refine Load 9 (.pointer (some ⟨b, 0 + (IntKind.wrap .i64 ((k : Int) - 1)).toNat * 1, none⟩)) (.string c) (by kernel_rfl) (by kernel_rfl) (load_str (hset _) (by rw [hw]; simp) hc) ?_
    refine Run 1000 ?_
    refine Fin_cB (seq a c) (by kernel_rfl) ?_
    cases hq : seq a c with
    | true =>
      refine Run 1000 ?_
      refine Slic 27 (.slice (some ⟨b, 0, some 1⟩) N kk) _ (some (I k)) none none (by kernel_rfl) (by kernel_rfl) (slice_str b N kk k (by omega)) ?_
      refine Run 1000 ?_
      refine Fin_goto (lpN Tryz.f64 1) (h0.set b (.row (strs L) true)) [(0, .slice (some ⟨b, 0, some 1⟩) N kk), (3, I k), (4, .slice (some ⟨b, 0 + k * 1, some 1⟩) (N - k) (if kk = N ∧ N = N then N - k else N - k + 1)), (5, I ((1 : Nat) : Int))] (by kernel_rfl) (by kernel_rfl) (by kernel_rfl) (fun f' hf' => ?_)
      rw [show ((1 : Nat) : Int) = ((k + 1 - k : Nat) : Int) by omega] at hf'
      have := comp_inner (X := X) h0 b kk (if kk = N ∧ N = N then N - k else N - k + 1) N k hb hN t k (k + 1) f' L (by omega) (by omega) (by omega) hL hf'
      have ht' : N - k - 1 = t := by omega
      simpa only [compOut, ha, hc, hq, if_true, hL, ht'] using this
    | false =>
      refine Run 1000 ?_
      refine Fin_goto (lpN Tryz.f64 0) (h0.set b (.row (strs L) true)) [(0, .slice (some ⟨b, 0, some 1⟩) N kk), (3, I (IntKind.wrap .i64 ((k : Int) + 1)))] (by kernel_rfl) (by kernel_rfl) (by kernel_rfl) (fun f' hf' => ?_)
      rw [hw2] at hf'
      have := ih (k + 1) f' (by omega) (by omega) hf'
      simpa only [compOut, ha, hc, hq, Bool.false_eq_true, if_false] using this

theorem set_same {h : AHeap} {b : Nat} {o : AObj} (hb : h[b]? = some o) : h = h.set b o := by
  have hlt : b < h.length := lt_of_get hb
  apply List.ext_getElem?
  intro j
  by_cases e : b = j
  · subst e; rw [List.getElem?_set_self hlt, hb]
  · rw [List.getElem?_set_ne e]
theorem compact_spec {X : Ext} (hX : X 64 = none) (h : AHeap) (b kk : Nat) (L : List ByteArray) (hb : h[b]? = some (.row (strs L) true)) (hN : L.length < 1000000) :
    Ca Tryz.prog X (.fn 64) [.slice (some ⟨b, 0, some 1⟩) L.length kk] h (fun v h' => ∃ L' kk', v = .slice (some ⟨b, 0, some 1⟩) (compactM seq L).length kk' ∧ h' = h.set b (.row (strs L') true) ∧ L'.take (compactM seq L).length = compactM seq L ∧ L'.length = L.length) := by
  refine Ca_fn (fn := Tryz.f64) (c := Tryz.f64.body.getD .skip) hX (by kernel_rfl) (by kernel_rfl) (by kernel_rfl) ?_
  have hlt : b < h.length := lt_of_get hb
  have hh := set_same hb
  refine Run 1000 ?_
  refine Fin_c ((L.length : Int) < 2) (by kernel_rfl) (fun h1 => ?_) (fun h1 => ?_)
  · refine Run 1000 ?_
    have hc : compactM seq L = L := by
      match L, h1 with
      | [], _ => rfl
      | [a], _ => rfl
      | a :: b :: l, h1 => simp at h1; omega
    refine Fin_r (by kernel_rfl) ⟨Or.inr rfl, .slice (some ⟨b, 0, some 1⟩) L.length kk, by kernel_rfl, L, kk, ?_, hh, ?_, rfl⟩
    · rw [hc]
    · rw [hc]; exact List.take_length
  · refine Run 1000 ?_
    refine Fin_goto (lpN Tryz.f64 0) h [(0, .slice (some ⟨b, 0, some 1⟩) L.length kk), (3, I (1 : Nat))] (by kernel_rfl) (by kernel_rfl) (by kernel_rfl) (fun f' hf' => ?_)
    have := comp_outer (X := X) h b kk L.length hlt hN L rfl (L.length - 1) 1 f' (by omega) (Nat.le_refl 1) hf'
    rw [← hh] at this
    exact this

/-- 'sorted' of up to twelve strings in a row of their own. -/
theorem sorted_small {X : Ext} (x : SortX X) (h : AHeap) (b kk : Nat) (L : List ByteArray) (hb : h[b]? = some (.row (strs L) true)) (hN : L.length ≤ 12) :
    Ca Tryz.prog X (.fn 29) [.slice (some ⟨b, 0, some 1⟩) L.length kk] h (fun v h' => ∃ L' kk', v = .slice (some ⟨b, 0, some 1⟩) (sortedF L).length kk' ∧ h' = h.set b (.row (strs L') true) ∧ L'.take (sortedF L).length = sortedF L ∧ L'.length = L.length) := by
  have hlt : b < h.length := lt_of_get hb
  refine Ca_fn (fn := Tryz.f29) (c := Tryz.f29.body.getD .skip) x.x64 (by kernel_rfl) (by kernel_rfl) (by kernel_rfl) ?_
  refine Run 1000 ?_
  refine Fin_call 63 [.slice (some ⟨b, 0, some 1⟩) L.length kk] (by kernel_rfl) (by kernel_rfl) (sort_small x h b kk L hb hN) (fun v1 hh1 hv1 => ?_)
  subst hv1
  refine Run 1000 ?_
  have hl := sortM_length ltS L
  have hc := compact_spec x.x79 (h.set b (.row (strs (sortM ltS L)) true)) b kk (sortM ltS L) (by simp [hlt]) (by omega)
  rw [hl] at hc
  refine Fin_call 64 [.slice (some ⟨b, 0, some 1⟩) L.length kk] (by kernel_rfl) (by kernel_rfl) hc (fun v2 hh2 hv2 => ?_)
  obtain ⟨L', kk', rfl, rfl, h3, h4⟩ := hv2
  refine Run 1000 ?_
  refine Fin_r (by kernel_rfl) ⟨Or.inr rfl, .slice (some ⟨b, 0, some 1⟩) (sortedF L).length kk', by kernel_rfl, L', kk', rfl, ?_, h3, h4⟩
  rw [List.set_set]
end Go.Proofs.YtpbmpdocgplhpaaGreatDoor

/-
  flag.words: the words in their order, handed to a body that goes on.
-/
set_option linter.unusedSimpArgs false
set_option linter.unusedVariables false
set_option maxRecDepth 100000
namespace Go.Proofs.YtpbmpdocgplhpaaGreatDoor
open Go Go.AM

/-- What stands below B (but for the round's object l), and all walks over strings, stand as they were. -/
structure Keep (B l m : Nat) (h h' : AHeap) : Prop where
  len : h.length ≤ h'.length
  low : ∀ (j : Nat), j < B → j ≠ l → j ≠ m → h'[j]? = h[j]?
  sit : ∀ (j : Nat) (s : ByteArray) (p : Nat), h[j]? = some (AObj.siter s p) → h'[j]? = h[j]?
theorem Keep.refl (B l m : Nat) (h : AHeap) : Keep B l m h h := ⟨Nat.le_refl _, fun _ _ _ _ => rfl, fun _ _ _ _ => rfl⟩
theorem Keep.trans {B l m : Nat} {h h1 h2 : AHeap} (a : Keep B l m h h1) (b : Keep B l m h1 h2) : Keep B l m h h2 :=
  ⟨Nat.le_trans a.len b.len, fun j hj hl hm => (b.low j hj hl hm).trans (a.low j hj hl hm), fun j s p hj => (b.sit j s p ((a.sit j s p hj).trans hj)).trans (a.sit j s p hj)⟩
/-- Only walks over strings, and what is new, may be other than they were. -/
structure Sit (h h' : AHeap) : Prop where
  len : h.length ≤ h'.length
  row : ∀ (j : Nat), j < h.length → (∀ (s : ByteArray) (p : Nat), h[j]? ≠ some (AObj.siter s p)) → h'[j]? = h[j]?

/-- A body that goes on at each word, and what it keeps. T: all the words. -/
structure Yields (X : Ext) (B l m : Nat) (T : List (List UInt8)) (I : List (List UInt8) → AHeap → Prop) : Prop where
  sit : ∀ L h h', I L h → Sit h h' → I L h'
  yld : ∀ L w R h, L ++ w :: R = T → I L h → B ≤ h.length → Ca Tryz.prog X (.yield l) [.string (gB w)] h (fun v h' => v = .bool true ∧ I (L ++ [w]) h' ∧ Keep B l m h h')

/-- The variables that the recursive function literal has caught. -/
structure Caps (l n k cn cy ck cg : Nat) (h : AHeap) : Prop where
  n : h[cn]? = some (.row [I n] true)
  y : h[cy]? = some (.row [.func (.yield l) #[] #[]] true)
  k : h[ck]? = some (.row [I k] true)
  g : h[cg]? = some (.row [.func (.func 110) #[] #[.pointer (some ⟨cn, 0, none⟩), .pointer (some ⟨cy, 0, none⟩), .pointer (some ⟨ck, 0, none⟩), .pointer (some ⟨cg, 0, none⟩)]] true)
structure Below (B l m cn cy ck cg : Nat) : Prop where
  n : cn < B ∧ cn ≠ l ∧ cn ≠ m
  y : cy < B ∧ cy ≠ l ∧ cy ≠ m
  k : ck < B ∧ ck ≠ l ∧ ck ≠ m
  g : cg < B ∧ cg ≠ l ∧ cg ≠ m
theorem Caps.keep {B l m n k cn cy ck cg : Nat} {h h' : AHeap} (b : Below B l m cn cy ck cg) (c : Caps l n k cn cy ck cg h) (q : Keep B l m h h') : Caps l n k cn cy ck cg h' :=
  ⟨(q.low _ b.n.1 b.n.2.1 b.n.2.2).trans c.n, (q.low _ b.y.1 b.y.2.1 b.y.2.2).trans c.y, (q.low _ b.k.1 b.k.2.1 b.k.2.2).trans c.k, (q.low _ b.g.1 b.g.2.1 b.g.2.2).trans c.g⟩

theorem ti64 : ti Tryz.prog 61 = some ⟨.func #[9] #[4] false, 1, 8, .nilFunc⟩ := by kernel_rfl
theorem letters_size : ∀ k, k ≤ 4 → (gB (lettersL k)).size = k := by
  intro k hk; rw [gB_size]; simp [lettersL, List.length_take]; omega
theorem letters_slice (k : Nat) (hk : k ≤ 4) : aslice Tryz.prog 9 (.string { data := #[97, 98, 99, 100] }) none (some (I k)) none = some (.string (gB (lettersL k))) := by
  rw [show (ByteArray.mk #[97, 98, 99, 100]) = gB [97, 98, 99, 100] from rfl, slice_to _ k (by rw [gB_size]; simpa using hk), gB_extract]
  rfl
theorem letters_get (k i : Nat) (hk : k ≤ 4) (hi : i < k) : ∃ c, (lettersL k)[i]? = some c ∧ c ∈ [(97 : UInt8), 98, 99, 100] ∧ ∀ h, Utf8.decode (gB (lettersL k)) i = (((gB (lettersL k))[i]'h).toNat, 1) ∧ (gB (lettersL k))[i]'h = c := by
  have hl : i < (lettersL k).length := by rw [← gB_size, letters_size k hk]; exact hi
  refine ⟨(lettersL k)[i], List.getElem?_eq_getElem hl, List.mem_of_mem_take (List.getElem_mem hl), fun h => ?_⟩
  have e : (gB (lettersL k))[i]'h = (lettersL k)[i] := rfl
  refine ⟨decode_ascii _ i h ?_, e⟩
  have key : (gB (lettersL k))[i]'h ∈ [(97 : UInt8), 98, 99, 100] := List.mem_of_mem_take (List.getElem_mem hl)
  generalize (gB (lettersL k))[i]'h = z at key
  simp only [List.mem_cons, List.not_mem_nil, or_false] at key
  rcases key with rfl | rfl | rfl | rfl <;> decide
theorem encode_letter {c : UInt8} (hc : c ∈ [(97 : UInt8), 98, 99, 100]) : Utf8.encode (c.toNat : Int) = gB [c] := by
  simp only [List.mem_cons, List.not_mem_nil, or_false] at hc
  rcases hc with rfl | rfl | rfl | rfl <;> decide

variable {X : Ext} {B l m n k cn cy ck cg : Nat} {T : List (List UInt8)} {Iv : List (List UInt8) → AHeap → Prop}

/-- The arguments of the recursive function. -/
abbrev growArgs (cn cy ck cg : Nat) (w : List UInt8) : List Value := [.string (gB w), .pointer (some ⟨cn, 0, none⟩), .pointer (some ⟨cy, 0, none⟩), .pointer (some ⟨ck, 0, none⟩), .pointer (some ⟨cg, 0, none⟩)]

theorem grow_loop (b : Below B l m cn cy ck cg) (hk : k ≤ 4) (d : Nat) (w : List UInt8) (hw : w.length < 1000)
    (rec : ∀ c L R h, c ∈ [(97 : UInt8), 98, 99, 100] → L ++ growL (lettersL k) d (w ++ [c]) ++ R = T → Iv L h → Caps l n k cn cy ck cg h → B ≤ h.length →
      Ca Tryz.prog X (.fn 110) (growArgs cn cy ck cg (w ++ [c])) h (fun v h' => v = .bool true ∧ Iv (L ++ growL (lettersL k) d (w ++ [c])) h' ∧ Keep B l m h h'))
    (Y : Yields X B l m T Iv) (h0 : AHeap) (hB : B ≤ h0.length) (r : Nat) (hr0 : h0.length ≤ r) :
    ∀ (t i : Nat) (L R : List (List UInt8)) (f : Nat → Value) (h : AHeap), i + t = k → L ++ ((lettersL k).drop i).flatMap (fun c => growL (lettersL k) d (w ++ [c])) ++ R = T → Iv L h → Caps l n k cn cy ck cg h → Keep B l m h0 h →
    h[r]? = some (AObj.siter (gB (lettersL k)) i) → Knows f [(0, .string (gB w)), (4, .pointer (some ⟨cg, 0, none⟩)), (18, .pointer (some ⟨r, 0, none⟩))] →
    Fin Tryz.prog X none Tryz.f110.ntmps (lpN Tryz.f110 0) .normal ⟨f, h⟩ (fun e y => (e = .normal ∨ e = .ret) ∧ ∃ v, fresults Tryz.prog Tryz.f110.results.toList y = some v ∧ v = .bool true ∧ Iv (L ++ ((lettersL k).drop i).flatMap (fun c => growL (lettersL k) d (w ++ [c]))) y.h ∧ Keep B l m h0 y.h) := by
  have hsz := letters_size k hk
  have hll : (lettersL k).length = k := by rw [← gB_size]; exact hsz
  intro t
  induction t with
  | zero =>
    intro i L R f h hi hT hI hC hK hr hf
    refine Fin_known _ hf ?_
    refine Fin_unrl ?_
    refine Run 1000 ?_
    refine Nxt r (gB (lettersL k)) i (by kernel_rfl) (by kernel_rfl) hr (fun hlt => by omega) (fun _ => ?_)
    refine Run 1000 ?_
    refine Fin_cB false (by kernel_rfl) ?_
    refine Run 1000 ?_
    refine Fin_r (by kernel_rfl) ⟨Or.inr rfl, .bool true, by kernel_rfl, rfl, ?_, hK⟩
    rw [List.drop_of_length_le (by omega)]; simpa using hI
  | succ t ih =>
    intro i L R f h hi hT hI hC hK hr hf
    obtain ⟨c, hc, hc4, hdec⟩ := letters_get k i hk (by omega)
    have hlt : i < (gB (lettersL k)).size := by omega
    obtain ⟨hd1, hd2⟩ := hdec hlt
    have hrl : r < h.length := lt_of_get hr
    have hdrop : (lettersL k).drop i = c :: (lettersL k).drop (i + 1) := by
      have h1 := List.getElem?_eq_getElem (l := lettersL k) (i := i) (by omega)
      rw [hc] at h1
      rw [List.drop_eq_getElem_cons (by omega : i < (lettersL k).length), ← Option.some.inj h1]
    refine Fin_known _ hf ?_
    refine Fin_unrl ?_
    refine Run 1000 ?_
    refine Nxt r (gB (lettersL k)) i (by kernel_rfl) (by kernel_rfl) hr (fun _ => ?_) (fun hn => absurd hlt hn)
    rw [hd1, hd2]
    refine Run 1000 ?_
    refine Fin_cB true (by kernel_rfl) ?_
    refine Run 1000 ?_
    have K1 : Keep B l m h (h.set r (.siter (gB (lettersL k)) (i + 1))) ∨ True := Or.inr trivial
    have hne : ∀ j, j < B → r ≠ j := by intro j hj; have := hK.len; omega
    have hC1 : Caps l n k cn cy ck cg (h.set r (.siter (gB (lettersL k)) (i + 1))) := by
      refine ⟨?_, ?_, ?_, ?_⟩
      · rw [List.getElem?_set_ne (hne _ b.n.1)]; exact hC.n
      · rw [List.getElem?_set_ne (hne _ b.y.1)]; exact hC.y
      · rw [List.getElem?_set_ne (hne _ b.k.1)]; exact hC.k
      · rw [List.getElem?_set_ne (hne _ b.g.1)]; exact hC.g
    refine Load 61 (.pointer (some ⟨cg, 0, none⟩)) (.func (.func 110) #[] #[.pointer (some ⟨cn, 0, none⟩), .pointer (some ⟨cy, 0, none⟩), .pointer (some ⟨ck, 0, none⟩), .pointer (some ⟨cg, 0, none⟩)]) (by kernel_rfl) (by kernel_rfl) (load_row ti64 rfl hC1.g rfl) ?_
    refine Run 1000 ?_
    refine Bin .add 9 (.string (gB w)) (.string (Utf8.encode (c.toNat : Int))) (.string (gB (w ++ [c]))) (by kernel_rfl) (by kernel_rfl) (by rw [encode_letter hc4]; simp only [abin, astr, gB_append, gB_size, lim, List.length_append, List.length_singleton]; rw [if_pos (by omega)]) ?_
    refine Run 1000 ?_
    have hI1 : Iv L (h.set r (.siter (gB (lettersL k)) (i + 1))) := by
      refine Y.sit L h _ hI ⟨by simp, fun j hj hs => ?_⟩
      have : r ≠ j := by intro e; subst e; exact hs _ _ hr
      rw [List.getElem?_set_ne this]
    have hT1 : L ++ growL (lettersL k) d (w ++ [c]) ++ (((lettersL k).drop (i + 1)).flatMap (fun c => growL (lettersL k) d (w ++ [c])) ++ R) = T := by
      rw [← hT, hdrop, List.flatMap_cons]; simp [List.append_assoc]
    refine Fin_call 110 (growArgs cn cy ck cg (w ++ [c])) (by kernel_rfl) (by kernel_rfl) (rec c L _ _ hc4 hT1 hI1 hC1 (by have := hK.len; simp; omega)) (fun v1 hh1 hv1 => ?_)
    obtain ⟨rfl, hI2, hK2⟩ := hv1
    refine Run 1000 ?_
    refine Fin_cB false (by kernel_rfl) ?_
    refine Run 1000 ?_
    refine Fin_goto (lpN Tryz.f110 0) hh1 [(0, .string (gB w)), (4, .pointer (some ⟨cg, 0, none⟩)), (18, .pointer (some ⟨r, 0, none⟩))] (by kernel_rfl) (by kernel_rfl) (by kernel_rfl) (fun f' hf' => ?_)
    have hr1 : (h.set r (.siter (gB (lettersL k)) (i + 1)))[r]? = some (AObj.siter (gB (lettersL k)) (i + 1)) := List.getElem?_set_self hrl
    have hK3 : Keep B l m h0 (h.set r (.siter (gB (lettersL k)) (i + 1))) := by
      refine ⟨by have := hK.len; simpa using this, fun j hj hjl hjm => ?_, fun j s p hj => ?_⟩
      · rw [List.getElem?_set_ne (hne j hj)]; exact hK.low j hj hjl hjm
      · have : j < h0.length := lt_of_get hj
        rw [List.getElem?_set_ne (by omega)]; exact hK.sit j s p hj
    have := ih (i + 1) (L ++ growL (lettersL k) d (w ++ [c])) R f' hh1 (by omega) (by rw [← hT1]; simp [List.append_assoc]) hI2 (hC1.keep b hK2) (hK3.trans hK2) ((hK2.sit r _ _ hr1).trans hr1) hf'
    rw [hdrop, List.flatMap_cons, ← List.append_assoc]
    exact this

theorem grow_spec (hX : X 110 = none) (b : Below B l m cn cy ck cg) (hk : k ≤ 4) (Y : Yields X B l m T Iv) (hn : n < 1000) :
    ∀ (d : Nat) (w : List UInt8) (L R : List (List UInt8)) (h : AHeap), w.length + d = n → L ++ growL (lettersL k) d w ++ R = T → Iv L h → Caps l n k cn cy ck cg h → B ≤ h.length →
      Ca Tryz.prog X (.fn 110) (growArgs cn cy ck cg w) h (fun v h' => v = .bool true ∧ Iv (L ++ growL (lettersL k) d w) h' ∧ Keep B l m h h') := by
  intro d
  induction d with
  | zero =>
    intro w L R h hd hT hI hC hB
    refine Ca_fn (fn := Tryz.f110) (c := Tryz.f110.body.getD .skip) hX (by kernel_rfl) (by kernel_rfl) (by kernel_rfl) ?_
    refine Run 1000 ?_
    refine Load 3 (.pointer (some ⟨cn, 0, none⟩)) (I n) (by kernel_rfl) (by kernel_rfl) (load_row ti3 rfl hC.n rfl) ?_
    refine Run 1000 ?_
    have hs : ((gB w).size : Int) = n := by rw [gB_size]; omega
    refine Fin_cB (((gB w).size : Int) == n) (by kernel_rfl) ?_
    rw [show (((gB w).size : Int) == n) = true by simpa using hs]
    refine Run 1000 ?_
    refine Load 61 (.pointer (some ⟨cy, 0, none⟩)) (.func (.yield l) #[] #[]) (by kernel_rfl) (by kernel_rfl) (load_row ti64 rfl hC.y rfl) ?_
    refine Run 1000 ?_
    refine Fin_yield l [.string (gB w)] (by kernel_rfl) (by kernel_rfl) (Y.yld L w R h (by rw [← hT]; simp [growL]) hI hB) (fun v h' hv => ?_)
    obtain ⟨rfl, hI2, hK2⟩ := hv
    refine Run 1000 ?_
    exact Fin_r (by kernel_rfl) ⟨Or.inr rfl, .bool true, by kernel_rfl, rfl, hI2, hK2⟩
  | succ d ih =>
    intro w L R h hd hT hI hC hB
    refine Ca_fn (fn := Tryz.f110) (c := Tryz.f110.body.getD .skip) hX (by kernel_rfl) (by kernel_rfl) (by kernel_rfl) ?_
    refine Run 1000 ?_
    refine Load 3 (.pointer (some ⟨cn, 0, none⟩)) (I n) (by kernel_rfl) (by kernel_rfl) (load_row ti3 rfl hC.n rfl) ?_
    refine Run 1000 ?_
    have hs : ¬((gB w).size : Int) = n := by rw [gB_size]; omega
    refine Fin_cB (((gB w).size : Int) == n) (by kernel_rfl) ?_
    rw [show (((gB w).size : Int) == n) = false by simpa using hs]
    refine Run 1000 ?_
    refine Load 3 (.pointer (some ⟨ck, 0, none⟩)) (I k) (by kernel_rfl) (by kernel_rfl) (load_row ti3 rfl hC.k rfl) ?_
    refine Run 1000 ?_
    refine Slic 9 (.string { data := #[97, 98, 99, 100] }) (.string (gB (lettersL k))) none (some (I k)) none (by kernel_rfl) (by kernel_rfl) (letters_slice k hk) ?_
    refine Run 1000 ?_
    refine Rng 9 (gB (lettersL k)) (by kernel_rfl) (by kernel_rfl) Tryz.underlying9 ?_
    refine Run 1000 ?_
    refine Fin_goto (lpN Tryz.f110 0) (h ++ [.siter (gB (lettersL k)) 0]) [(0, .string (gB w)), (4, .pointer (some ⟨cg, 0, none⟩)), (18, .pointer (some ⟨h.length, 0, none⟩))] (by kernel_rfl) (by kernel_rfl) (by kernel_rfl) (fun f' hf' => ?_)
    have hS : Sit h (h ++ [.siter (gB (lettersL k)) 0]) := ⟨by simp, fun j hj _ => List.getElem?_append_left hj⟩
    have hK : Keep B l m h (h ++ [.siter (gB (lettersL k)) 0]) := ⟨by simp, fun j hj _ _ => List.getElem?_append_left (by omega), fun j s p hj => List.getElem?_append_left (lt_of_get hj)⟩
    have := grow_loop (X := X) (n := n) (Iv := Iv) b hk d w (by omega) (fun c L R h hc hT hI hC hB => ih (w ++ [c]) L R h (by simp; omega) hT hI hC hB) Y h hB h.length (Nat.le_refl _) k 0 L R f' (h ++ [.siter (gB (lettersL k)) 0]) (by omega) (by simpa [growL] using hT) (Y.sit _ _ _ hI hS) (hC.keep b hK) hK (by simp) hf'
    simpa [growL] using this
end Go.Proofs.YtpbmpdocgplhpaaGreatDoor

/-
  flag.isWhole of a short word.
-/
set_option linter.unusedSimpArgs false
set_option linter.unusedVariables false
set_option maxRecDepth 100000
namespace Go.Proofs.YtpbmpdocgplhpaaGreatDoor
open Go Go.AM

theorem Acc.as_strs {h0 h : AHeap} {v : Value} {L : List ByteArray} (A : Acc h0 h v L) : ∃ a kk, v = .slice a L.length kk ∧ Strs h a L := by
  rcases A.val with ⟨rfl, rfl⟩ | ⟨b, hb, rfl, hr⟩
  · exact ⟨none, 0, rfl, Or.inl rfl, by intro i hi; simp at hi⟩
  · refine ⟨_, _, rfl, Or.inr ⟨b, 0, rfl⟩, fun i hi => ⟨b, 0, strs L, true, rfl, hr, ?_⟩⟩
    rw [Nat.zero_add]; exact strs_get (List.getElem?_eq_getElem hi)
theorem Acc.row {h0 h : AHeap} {v : Value} {L : List ByteArray} (A : Acc h0 h v L) (hL : 0 < L.length) : ∃ b, h0.length ≤ b ∧ v = .slice (some ⟨b, 0, some 1⟩) L.length (L.length + 1) ∧ h[b]? = some (.row (strs L) true) := by
  rcases A.val with ⟨rfl, rfl⟩ | ⟨b, hb, rfl, hr⟩
  · simp at hL
  · exact ⟨b, hb, rfl, hr⟩
theorem Grew.refl (h : AHeap) : Grew h h := ⟨[], by simp⟩
theorem Grew.trans {h h1 h2 : AHeap} (a : Grew h h1) (b : Grew h1 h2) : Grew h h2 := by
  obtain ⟨g, rfl⟩ := a; obtain ⟨g2, rfl⟩ := b; exact ⟨g ++ g2, by simp⟩
theorem Grew.set {h h1 : AHeap} (a : Grew h h1) {b : Nat} (hb : h.length ≤ b) (o : AObj) : Grew h (h1.set b o) := by
  obtain ⟨g, rfl⟩ := a
  exact ⟨g.set (b - h.length) o, by rw [List.set_append_right _ _ hb]⟩
theorem Grew.get {h h1 : AHeap} (a : Grew h h1) {j : Nat} (hj : j < h.length) : h1[j]? = h[j]? := by
  obtain ⟨g, rfl⟩ := a; exact List.getElem?_append_left hj
theorem Grew.le {h h1 : AHeap} (a : Grew h h1) : h.length ≤ h1.length := by
  obtain ⟨g, rfl⟩ := a; simp
theorem Grew.at {h h1 : AHeap} (a : Grew h h1) {j : Nat} {o : AObj} (hj : h[j]? = some o) : h1[j]? = some o := (a.get (lt_of_get hj)).trans hj

theorem turnsTo_length (w : ByteArray) (n : Nat) : (turnsTo w n).length = n := by simp [turnsTo]
theorem whole_spec {X : Ext} (hX : X 28 = none) (hX2 : X 30 = none) (x : SortX X) (w : ByteArray) (hw : ascii w) (h1 : 1 ≤ w.size) (h12 : w.size ≤ 12) (h : AHeap) :
    Ca Tryz.prog X (.fn 28) [.string w] h (fun v h' => v = .bool (wholeF w) ∧ Grew h h') := by
  refine Ca_fn (fn := Tryz.f28) (c := Tryz.f28.body.getD .skip) hX (by kernel_rfl) (by kernel_rfl) (by kernel_rfl) ?_
  refine Run 1000 ?_
  refine Fin_call 30 [.string w] (by kernel_rfl) (by kernel_rfl) (turns_spec hX2 w hw (by omega) h) (fun v1 hh1 A => ?_)
  have hl := turnsTo_length w w.size
  obtain ⟨b, hb, rfl, hr⟩ := A.row (by omega)
  have G := A.grew
  refine Run 1000 ?_
  have hs := sorted_small x hh1 b ((turnsTo w w.size).length + 1) (turnsTo w w.size) hr (by omega)
  refine Fin_call 29 [.slice (some ⟨b, 0, some 1⟩) (turnsTo w w.size).length ((turnsTo w w.size).length + 1)] (by kernel_rfl) (by kernel_rfl) hs (fun v2 hh2 hv2 => ?_)
  obtain ⟨L', kk', rfl, rfl, h3, h4⟩ := hv2
  refine Run 1000 ?_
  refine Fin_r (by kernel_rfl) ⟨Or.inr rfl, .bool (((sortedF (turnsTo w w.size)).length : Int) == w.size), by kernel_rfl, ?_, G.set hb _⟩
  unfold wholeF
  congr 1
theorem first_spec {X : Ext} (hX : X 72 = none) (w : ByteArray) (h0 h : AHeap) (v : Value) (A : Acc h0 h v (turnsTo w w.size)) (h1 : 1 ≤ w.size) (h2 : w.size < 1000000) :
    Ca Tryz.prog X (.fn 72) [v] h (fun v h' => v = .string (firstF w) ∧ h' = h) := by
  obtain ⟨a, kk, rfl, hs⟩ := A.as_strs
  have hl := turnsTo_length w w.size
  refine (min_spec hX h a kk (turnsTo w w.size) (by omega) hs (by omega)).imp fun v h' ⟨hv, hh⟩ => ⟨?_, hh⟩
  rw [hv]; unfold firstF
  congr 2
  rw [List.getD_eq_getElem?_getD, List.getElem?_eq_getElem (by omega)]; rfl
end Go.Proofs.YtpbmpdocgplhpaaGreatDoor

/-
  flag.rings and flag.Rings.
-/
set_option linter.unusedSimpArgs false
set_option linter.unusedVariables false
set_option maxRecDepth 100000
namespace Go.Proofs.YtpbmpdocgplhpaaGreatDoor
open Go Go.AM

/-- The words of a length over letters. -/
theorem grow_mem (cs : List UInt8) : ∀ (d : Nat) (p w : List UInt8), w ∈ growL cs d p → w.length = p.length + d ∧ ∀ c ∈ w, c ∈ p ∨ c ∈ cs := by
  intro d
  induction d with
  | zero => intro p w hw; simp only [growL, List.mem_singleton] at hw; subst hw; exact ⟨rfl, fun c hc => Or.inl hc⟩
  | succ d ih =>
    intro p w hw
    simp only [growL, List.mem_flatMap] at hw
    obtain ⟨c, hc, hw⟩ := hw
    obtain ⟨h1, h2⟩ := ih _ _ hw
    refine ⟨by simp at h1; omega, fun x hx => ?_⟩
    rcases h2 x hx with h | h
    · simp only [List.mem_append, List.mem_singleton] at h
      rcases h with h | rfl
      · exact Or.inl h
      · exact Or.inr hc
    · exact Or.inr h
theorem ascii_letters {w : List UInt8} (h : ∀ c ∈ w, c ∈ [(97 : UInt8), 98, 99, 100]) : ascii (gB w) := by
  intro i hi
  have hm : (gB w)[i]'hi ∈ w := List.getElem_mem (l := w) (n := i) (by simpa [gB_size] using hi)
  have := h _ hm
  generalize (gB w)[i]'hi = z at this
  simp only [List.mem_cons, List.not_mem_nil, or_false] at this
  rcases this with rfl | rfl | rfl | rfl <;> decide
theorem words_mem {k n : Nat} {w : List UInt8} (h : w ∈ wordsL k n) : w.length = n ∧ ∀ c ∈ w, c ∈ [(97 : UInt8), 98, 99, 100] := by
  obtain ⟨h1, h2⟩ := grow_mem _ _ _ _ h
  refine ⟨by simpa using h1, fun c hc => ?_⟩
  rcases h2 c hc with h | h
  · simp at h
  · exact List.mem_of_mem_take h

theorem Acc.more {h0 h h' : AHeap} {v : Value} {L : List ByteArray} (A : Acc h0 h v L) (g : Grew h h') : Acc h0 h' v L := by
  refine ⟨Nat.le_trans A.le g.le, fun j hj => (g.get (Nat.lt_of_lt_of_le hj A.le)).trans (A.old j hj), ?_⟩
  rcases A.val with hv | ⟨b, hb, hv, hr⟩
  · exact Or.inl hv
  · exact Or.inr ⟨b, hb, hv, g.at hr⟩
theorem Acc.reset {h0 h : AHeap} {v : Value} {L : List ByteArray} (A : Acc h0 h v L) {j : Nat} (hj : j < h0.length) (o : AObj) : Acc (h0.set j o) (h.set j o) v L := by
  have hle := A.le
  refine ⟨by simpa using A.le, fun i hi => ?_, ?_⟩
  · simp only [List.length_set] at hi
    by_cases e : j = i
    · subst e; rw [List.getElem?_set_self (by omega), List.getElem?_set_self (by omega)]
    · rw [List.getElem?_set_ne e, List.getElem?_set_ne e]; exact A.old i hi
  · rcases A.val with hv | ⟨b, hb, hv, hr⟩
    · exact Or.inl hv
    · refine Or.inr ⟨b, by simpa using hb, hv, ?_⟩
      rw [List.getElem?_set_ne (by omega)]; exact hr
theorem take_set {h : AHeap} {B j : Nat} (o : AObj) : (h.set j o).take B = (h.take B).set j o := by rw [List.take_set]

/-- Between two rounds of a range over the words: the output so far stands in the variable oc. -/
structure Outs (l oc B : Nat) (ts : List Value) (ps : List Tmp) (sa bd : Code) (F : List (List UInt8) → List ByteArray) (L : List (List UInt8)) (h : AHeap) : Prop where
  lp : h[l]? = some (.loop .ready none ts ps sa bd)
  out : ∃ v, h[oc]? = some (.row [v] true) ∧ Acc (h.take B) h v (F L)
  le : B ≤ h.length
theorem Outs.sit {l oc B : Nat} {ts : List Value} {ps : List Tmp} {sa bd : Code} {F : List (List UInt8) → List ByteArray} {L : List (List UInt8)} {h h' : AHeap} (o : Outs l oc B ts ps sa bd F L h) (S : Sit h h') : Outs l oc B ts ps sa bd F L h' := by
  obtain ⟨v, hv, A⟩ := o.out
  refine ⟨?_, ⟨v, ?_, ?_⟩, Nat.le_trans o.le S.len⟩
  · rw [S.row l (lt_of_get o.lp) (by intro s p; rw [o.lp]; simp)]; exact o.lp
  · rw [S.row oc (lt_of_get hv) (by intro s p; rw [hv]; simp)]; exact hv
  · have h1 := o.le; have h2 := S.len
    refine ⟨by simp; omega, fun j hj => ?_, ?_⟩
    · simp at hj; rw [List.getElem?_take, if_pos (by omega)]
    · rcases A.val with e | ⟨b, hb, e, hr⟩
      · exact Or.inl e
      · refine Or.inr ⟨b, ?_, e, ?_⟩
        · simp at hb ⊢; omega
        · rw [S.row b (lt_of_get hr) (by intro s p; rw [hr]; simp)]; exact hr

def ringOK (w : List UInt8) : Bool := wholeL w && eqL w (firstL w)
/-- The range's code in 'rings'. -/
def rfAs : Code → Option (List Tmp × Code × Code)
  | .seq a b => (match rfAs a with | some q => some q | none => rfAs b)
  | .block _ c => rfAs c
  | .scope c => rfAs c
  | .rangeFunc _ ps sa bd => some (ps.toList, sa, bd)
  | _ => none
noncomputable def ringAs : Code := ((rfAs (Tryz.f38.body.getD .skip)).getD ([], .skip, .skip)).2.1
noncomputable def ringBd : Code := ((rfAs (Tryz.f38.body.getD .skip)).getD ([], .skip, .skip)).2.2

structure RingX (X : Ext) : Prop where
  s : SortX X
  x50 : X 38 = none
  x58 : X 71 = none
  x61 : X 28 = none
  x62 : X 72 = none
  x63 : X 30 = none
  x76 : X 109 = none
  x77 : X 110 = none

def ringOut (L : List (List UInt8)) : List ByteArray := (L.filter ringOK).map gB

theorem Acc.own {h0 h : AHeap} {v : Value} {L : List ByteArray} (A : Acc h0 h v L) {B : Nat} (hB : B ≤ h0.length) : Acc (h.take B) h v L := by
  have := A.le
  refine ⟨by simp; omega, fun j hj => ?_, ?_⟩
  · simp at hj; rw [List.getElem?_take, if_pos (by omega)]
  · rcases A.val with e | ⟨b, hb, e, hr⟩
    · exact Or.inl e
    · exact Or.inr ⟨b, by simp; omega, e, hr⟩
theorem Outs.close {l oc B : Nat} {ts : List Value} {ps : List Tmp} {sa bd : Code} {F : List (List UInt8) → List ByteArray} {L' : List (List UInt8)} {h hz : AHeap} {v' : Value} {o : AObj} (hl : l < B) (hoc : oc < B) (hne : oc ≠ l)
    (hlp : h[l]? = some (.loop .ready none ts ps sa bd)) (lpz : hz[l]? = some o) (outz : hz[oc]? = some (.row [v'] true)) (A : Acc (hz.take B) hz v' (F L')) (hB : B ≤ h.length) (le : h.length ≤ hz.length)
    (low : ∀ j, j < B → j ≠ l → j ≠ oc → hz[j]? = h[j]?) (sit : ∀ (j : Nat) (s : ByteArray) (p : Nat), h[j]? = some (AObj.siter s p) → hz[j]? = h[j]?) :
    Outs l oc B ts ps sa bd F L' (hz.set l (.loop .ready none ts ps sa bd)) ∧ Keep B l oc h (hz.set l (.loop .ready none ts ps sa bd)) := by
  have hlz : l < hz.length := lt_of_get lpz
  refine ⟨⟨List.getElem?_set_self hlz, ⟨v', ?_, ?_⟩, by simp; omega⟩, ⟨by simpa using le, fun j hj h1 h2 => ?_, fun j s p hj => ?_⟩⟩
  · rw [List.getElem?_set_ne (fun e => hne e.symm)]; exact outz
  · rw [take_set]; exact A.reset (by simp; omega) _
  · rw [List.getElem?_set_ne (fun e => h1 e.symm)]; exact low j hj h1 h2
  · have : l ≠ j := by intro e; subst e; rw [hlp] at hj; simp at hj
    rw [List.getElem?_set_ne this]; exact sit j s p hj

theorem ring_yields {X : Ext} (x : RingX X) {k n l oc B : Nat} {ts : List Value} (hn1 : 1 ≤ n) (hn : n ≤ 5) (hT : (wordsL k n).length < 1000000) (hl : l < B) (hoc : oc < B) (hne : oc ≠ l)
    (hts : ts.length = Tryz.f38.ntmps) (h5 : ts.getD 5 undef = .pointer (some ⟨oc, 0, none⟩)) : Yields X B l oc (wordsL k n) (fun L h => Outs l oc B ts [10] ringAs ringBd ringOut L h) where
  sit := fun L h h' o S => o.sit S
  yld := by
    intro L w R h hT' o hB
    have hmem : w ∈ wordsL k n := by rw [← hT']; simp
    obtain ⟨hwn, hwl⟩ := words_mem hmem
    have hasc := ascii_letters hwl
    have hsz : (gB w).size = n := hwn
    obtain ⟨v, hv, A⟩ := o.out
    have hlen : L.length + 1 ≤ (wordsL k n).length := by rw [← hT']; simp
    have hlh : l < h.length := lt_of_get o.lp
    refine Ca_yield o.lp rfl hts ?_
    refine Run 1000 ?_
    refine Fin_e (by kernel_rfl) ⟨rfl, none, ts, [10], ringAs, ringBd, o.lp, ?_⟩
    have f5 : (ts.set 10 (.string (gB w))).getD 5 undef = .pointer (some ⟨oc, 0, none⟩) := by
      rw [List.getD_eq_getElem?_getD, List.getElem?_set_ne (by omega), ← List.getD_eq_getElem?_getD]; exact h5
    have f10 : (ts.set 10 (.string (gB w))).getD 10 undef = .string (gB w) := by
      rw [List.getD_eq_getElem?_getD, List.getElem?_set_self (by rw [hts]; decide)]; rfl
    refine Fin_known [(5, .pointer (some ⟨oc, 0, none⟩)), (6, .string (gB w))] (Eq.trans (b := [(ts.set 10 (.string (gB w))).getD 5 undef, (ts.set 10 (.string (gB w))).getD 10 undef]) (by kernel_rfl) (by rw [f5, f10]; rfl)) ?_
    obtain ⟨hb, ehb⟩ : ∃ hb, hb = h.set l (.loop .busy none ts [10] ringAs ringBd) := ⟨_, rfl⟩
    have hbl : hb[l]? = some (.loop .busy none ts [10] ringAs ringBd) := by rw [ehb]; exact List.getElem?_set_self hlh
    have hblen : hb.length = h.length := by rw [ehb]; simp
    have hbo : ∀ j, j ≠ l → hb[j]? = h[j]? := by intro j hj; rw [ehb, List.getElem?_set_ne (fun e => hj e.symm)]
    have hbA : Acc (hb.take B) hb v (ringOut L) := by
      rw [ehb, take_set]; exact A.reset (by simp; omega) _
    have hbv : hb[oc]? = some (.row [v] true) := (hbo oc hne).trans hv
    rw [← ehb]
    -- what follows where nothing is added
    have skip : ∀ hz, Grew hb hz → ringOK w = false → Outs l oc B ts [10] ringAs ringBd ringOut (L ++ [w]) (hz.set l (.loop .ready none ts [10] ringAs ringBd)) ∧ Keep B l oc h (hz.set l (.loop .ready none ts [10] ringAs ringBd)) := by
      intro hz G hno
      have hF : ringOut (L ++ [w]) = ringOut L := by simp [ringOut, hno]
      refine Outs.close hl hoc hne o.lp (G.at hbl) (G.at hbv) ?_ hB (by rw [← hblen]; exact G.le) (fun j hj h1 h2 => ?_) (fun j s p hj => ?_)
      · rw [hF]; exact (hbA.more G).own (by simp; omega)
      · rw [G.get (by omega)]; exact hbo j h1
      · have h1 : j ≠ l := by intro e; subst e; rw [o.lp] at hj; simp at hj
        rw [G.get (by have := lt_of_get hj; omega)]; exact hbo j h1
    refine Run 1000 ?_
    refine Fin_call 28 [.string (gB w)] (by kernel_rfl) (by kernel_rfl) (whole_spec x.x61 x.x63 x.s (gB w) hasc (by omega) (by omega) hb) (fun v1 hh1 hv1 => ?_)
    obtain ⟨rfl, G1⟩ := hv1
    rw [whole_gB]
    refine Run 1000 ?_
    refine Fin_gB (wholeL w) (by kernel_rfl) (by kernel_rfl) ?_
    cases hW : wholeL w with
    | false =>
      refine Run 1000 ?_
      refine Fin_cB false (by kernel_rfl) ?_
      refine Run 1000 ?_
      obtain ⟨q1, q2⟩ := skip hh1 G1 (by simp [ringOK, hW])
      exact Fin_e (by kernel_rfl) ⟨.busy, none, ts, [10], ringAs, ringBd, G1.at hbl, rfl, q1, q2⟩
    | true =>
      refine Run 1000 ?_
      refine Fin_call 30 [.string (gB w)] (by kernel_rfl) (by kernel_rfl) (turns_spec x.x63 (gB w) hasc (by omega) hh1) (fun v3 hh3 A3 => ?_)
      have G3 := G1.trans A3.grew
      refine Run 1000 ?_
      refine Fin_call 72 [v3] (by kernel_rfl) (by kernel_rfl) (first_spec x.x62 (gB w) hh1 hh3 v3 A3 (by omega) (by omega)) (fun v4 hh4 hv4 => ?_)
      obtain ⟨rfl, rfl⟩ := hv4
      rw [first_gB]
      refine Run 1000 ?_
      refine Fin_cB (eqL w (firstL w)) (by kernel_rfl) ?_
      cases hE : eqL w (firstL w) with
      | false =>
        refine Run 1000 ?_
        obtain ⟨q1, q2⟩ := skip hh4 G3 (by simp [ringOK, hE])
        exact Fin_e (by kernel_rfl) ⟨.busy, none, ts, [10], ringAs, ringBd, G3.at hbl, rfl, q1, q2⟩
      | true =>
        have hok : ringOK w = true := by simp [ringOK, hW, hE]
        have hF : ringOut (L ++ [w]) = ringOut L ++ [gB w] := by simp [ringOut, hok]
        have hov := G3.at hbv
        have h4len : h.length ≤ hh4.length := by rw [← hblen]; exact G3.le
        have A4 : Acc (hh4.take B) hh4 v (ringOut L) := (hbA.more G3).own (by simp; omega)
        obtain ⟨v', h', ha, A', hle, hkeep⟩ := Acc.app A4 (gB w) (by have : (ringOut L).length ≤ L.length := by { simp only [ringOut, List.length_map]; exact List.length_filter_le _ _ }
                                                                     omega)
        have hlow : ∀ j, j < B → h'[j]? = hh4[j]? := by
          intro j hj; rw [A'.old j (by simp; omega), List.getElem?_take, if_pos hj]
        refine Run 1000 ?_
        refine Load 27 (.pointer (some ⟨oc, 0, none⟩)) v (by kernel_rfl) (by kernel_rfl) (load_row ti22 rfl hov rfl) ?_
        refine Run 1000 ?_
        refine Bld 27 1 [(0, .string (gB w))] (.slice (some ⟨hh4.length, 0, some 1⟩) 1 1) (hh4 ++ [AObj.row [Value.string (gB w)] true]) (by kernel_rfl) (by kernel_rfl) (by simp [abuildSlice, ti22, ti9, zerosOf, afill, splice, isCell, Value.cells, isData]) ?_
        refine Run 1000 ?_
        refine App 27 27 v (.slice (some ⟨hh4.length, 0, some 1⟩) 1 1) v' h' (by kernel_rfl) (by kernel_rfl) Tryz.underlying27 (by simp) ha ?_
        refine Run 1000 ?_
        have hov' : h'[oc]? = some (.row [v] true) := (hlow oc hoc).trans hov
        have hvv : v'.cells = #[v'] ∧ isData v' = true ∧ isCell v' = true := by
          rcases A'.val with ⟨_, e⟩ | ⟨b, _, e, _⟩ <;> rw [e] <;> exact ⟨rfl, rfl, rfl⟩
        refine Store 27 (.pointer (some ⟨oc, 0, none⟩)) v' (h'.set oc (.row [v'] true)) (by kernel_rfl) (by kernel_rfl) (store_row ti22 rfl hvv.1 hvv.2.1 hvv.2.2 hov' (by simp)) ?_
        refine Run 1000 ?_
        have hocl : oc < h'.length := lt_of_get hov'
        have q := Outs.close (F := ringOut) (L' := L ++ [w]) (h := h) (hz := h'.set oc (.row [v'] true)) (v' := v') (ts := ts) (ps := [10]) (sa := ringAs) (bd := ringBd) (o := .loop .busy none ts [10] ringAs ringBd) hl hoc hne o.lp (by rw [List.getElem?_set_ne hne, hlow l hl]; exact G3.at hbl) (List.getElem?_set_self hocl)
          (by rw [hF, take_set]; exact (A'.own (B := B) (by simp; omega)).reset (by simp; omega) _) hB (by simp; omega) (fun j hj h1 h2 => by rw [List.getElem?_set_ne (fun e => h2 e.symm), hlow j hj, G3.get (by omega)]; exact hbo j h1)
          (fun j s p hj => by
            have hjl := lt_of_get hj
            have h1 : j ≠ l := by intro e; subst e; rw [o.lp] at hj; simp at hj
            have h2 : oc ≠ j := by intro e; subst e; rw [hv] at hj; simp at hj
            have h3 : hh4[j]? = h[j]? := by rw [G3.get (by omega)]; exact hbo j h1
            rw [List.getElem?_set_ne h2, hkeep j (by intro cs; rw [h3, hj]; simp) (by omega)]; exact h3)
        exact Fin_e (by kernel_rfl) ⟨.busy, none, ts, [10], ringAs, ringBd, by rw [List.getElem?_set_ne hne, hlow l hl]; exact G3.at hbl, rfl, q.1, q.2⟩
end Go.Proofs.YtpbmpdocgplhpaaGreatDoor

/-
  flag.words, flag.rings and flag.Rings, whole.
-/
set_option linter.unusedSimpArgs false
set_option linter.unusedVariables false
set_option maxRecDepth 100000
namespace Go.Proofs.YtpbmpdocgplhpaaGreatDoor
open Go Go.AM

theorem words_spec {X : Ext} (hX : X 71 = none) (k n : Int) (h : AHeap) :
    Ca Tryz.prog X (.fn 71) [I k, I n] h (fun v h' => v = .func (.func 109) #[] #[.pointer (some ⟨(h ++ [AObj.row [I k] true]).length, 0, none⟩), .pointer (some ⟨h.length, 0, none⟩)] ∧ h' = h ++ [.row [I k] true] ++ [.row [I n] true]) := by
  refine Ca_fn (fn := Tryz.f71) (c := Tryz.f71.body.getD .skip) hX (by kernel_rfl) (by kernel_rfl) (by kernel_rfl) ?_
  refine Run 1000 ?_
  refine Box (I k) (by kernel_rfl) (by kernel_rfl) rfl ?_
  refine Run 1000 ?_
  refine Box (I n) (by kernel_rfl) (by kernel_rfl) rfl ?_
  refine Run 1000 ?_
  exact Fin_r (by kernel_rfl) ⟨Or.inr rfl, .func (.func 109) #[] #[.pointer (some ⟨(h ++ [AObj.row [I k] true]).length, 0, none⟩), .pointer (some ⟨h.length, 0, none⟩)], by kernel_rfl, rfl, rfl⟩

/-- The function literal's own two variables. -/
def ownVars (h : AHeap) (l nc kc : Nat) : AHeap :=
  h ++ [.row [.func (.yield l) #[] #[]] true] ++ [.row [.func (.func 110) #[] #[.pointer (some ⟨nc, 0, none⟩), .pointer (some ⟨h.length, 0, none⟩), .pointer (some ⟨kc, 0, none⟩), .pointer (some ⟨h.length + 1, 0, none⟩)]] true]
theorem words1_spec {X : Ext} (hX : X 109 = none) (hX2 : X 110 = none) {k n l m nc kc : Nat} {Iv : List (List UInt8) → AHeap → Prop} (h : AHeap) (hk : k ≤ 4) (hn : n < 1000)
    (hnc : h[nc]? = some (.row [I n] true)) (hkc : h[kc]? = some (.row [I k] true)) (n1 : nc ≠ l ∧ nc ≠ m) (k1 : kc ≠ l ∧ kc ≠ m) (hl : l < h.length) (hm : m < h.length)
    (Y : Yields X (h.length + 2) l m (wordsL k n) Iv) (hI : Iv [] (ownVars h l nc kc)) :
    Ca Tryz.prog X (.fn 109) [.func (.yield l) #[] #[], .pointer (some ⟨nc, 0, none⟩), .pointer (some ⟨kc, 0, none⟩)] h (fun v h' => Iv (wordsL k n) h' ∧ Keep (h.length + 2) l m (ownVars h l nc kc) h') := by
  have hncl := lt_of_get hnc
  have hkcl := lt_of_get hkc
  refine Ca_fn (fn := Tryz.f109) (c := Tryz.f109.body.getD .skip) hX (by kernel_rfl) (by kernel_rfl) (by kernel_rfl) ?_
  refine Run 1000 ?_
  refine Box (.func (.yield l) #[] #[]) (by kernel_rfl) (by kernel_rfl) rfl ?_
  refine Run 1000 ?_
  refine Alloc 61 (by kernel_rfl) (by kernel_rfl) ti64 rfl ?_
  refine Run 1000 ?_
  have e1 : (h ++ [AObj.row [Value.func (.yield l) #[] #[]] true]).length = h.length + 1 := by simp
  refine Store 61 (.pointer (some ⟨(h ++ [AObj.row [Value.func (.yield l) #[] #[]] true]).length, 0, none⟩)) (.func (.func 110) #[] #[.pointer (some ⟨nc, 0, none⟩), .pointer (some ⟨h.length, 0, none⟩), .pointer (some ⟨kc, 0, none⟩), .pointer (some ⟨(h ++ [AObj.row [Value.func (.yield l) #[] #[]] true]).length, 0, none⟩)]) (ownVars h l nc kc) (by kernel_rfl) (by kernel_rfl) ?_ ?_
  · show astore Tryz.prog (h ++ [AObj.row [Value.func (.yield l) #[] #[]] true] ++ [AObj.row [Value.nilFunc] true]) 61 _ _ = _
    rw [store_row (cs := [.nilFunc]) ti64 rfl rfl rfl rfl (by rw [List.getElem?_append_right (Nat.le_refl _)]; simp) (by simp)]
    simp [ownVars, splice]
  refine Run 1000 ?_
  have hg : (ownVars h l nc kc)[h.length + 1]? = some (.row [.func (.func 110) #[] #[.pointer (some ⟨nc, 0, none⟩), .pointer (some ⟨h.length, 0, none⟩), .pointer (some ⟨kc, 0, none⟩), .pointer (some ⟨h.length + 1, 0, none⟩)]] true) := by
    unfold ownVars; rw [List.getElem?_append_right (by simp)]; simp
  refine Load 61 (.pointer (some ⟨(h ++ [AObj.row [Value.func (.yield l) #[] #[]] true]).length, 0, none⟩)) (.func (.func 110) #[] #[.pointer (some ⟨nc, 0, none⟩), .pointer (some ⟨h.length, 0, none⟩), .pointer (some ⟨kc, 0, none⟩), .pointer (some ⟨h.length + 1, 0, none⟩)]) (by kernel_rfl) (by kernel_rfl) (by rw [e1]; exact load_row ti64 rfl hg rfl) ?_
  refine Run 1000 ?_
  have hC : Caps l n k nc h.length kc (h.length + 1) (ownVars h l nc kc) := by
    refine ⟨?_, ?_, ?_, hg⟩
    · unfold ownVars; rw [List.append_assoc, List.getElem?_append_left hncl]; exact hnc
    · unfold ownVars; rw [List.append_assoc, List.getElem?_append_right (Nat.le_refl _)]; simp
    · unfold ownVars; rw [List.append_assoc, List.getElem?_append_left hkcl]; exact hkc
  have hspec := grow_spec (X := X) (Iv := Iv) (T := wordsL k n) hX2 (B := h.length + 2) (l := l) (m := m) (n := n) (k := k) ⟨⟨by omega, n1⟩, ⟨by omega, by omega, by omega⟩, ⟨by omega, k1⟩, ⟨by omega, by omega, by omega⟩⟩ hk Y hn n [] [] [] (ownVars h l nc kc) (by simp) (by simp [wordsL]) hI hC (by simp [ownVars])
  refine Fin_call 110 (growArgs nc h.length kc (h.length + 1) []) (by kernel_rfl) (by kernel_rfl) hspec (fun v hh hv => ?_)
  obtain ⟨rfl, h1, h2⟩ := hv
  refine Run 1000 ?_
  exact Fin_e (by kernel_rfl) ⟨Or.inl rfl, .tuple #[], by kernel_rfl, by simpa [wordsL] using h1, h2⟩

theorem words_len : ∀ k : Fin 5, ∀ n : Fin 6, (wordsL k n).length < 1000000 := by decide +kernel
theorem ringsF_out (k n : Nat) : ringOut (wordsL k n) = ringsF k n := rfl

theorem rings_spec {X : Ext} (x : RingX X) (k n : Nat) (hk : k ≤ 4) (hn1 : 1 ≤ n) (hn : n ≤ 5) (h : AHeap) :
    Ca Tryz.prog X (.fn 38) [I k, I n] h (fun v h' => Acc h h' v (ringsF k n)) := by
  refine Ca_fn (fn := Tryz.f38) (c := Tryz.f38.body.getD .skip) x.x50 (by kernel_rfl) (by kernel_rfl) (by kernel_rfl) ?_
  refine Run 1000 ?_
  refine Alloc 27 (by kernel_rfl) (by kernel_rfl) ti22 rfl ?_
  refine Run 1000 ?_
  have w58 : Ca Tryz.prog X (.fn 71) [I k, I n] (h ++ [AObj.row [Value.slice none 0 0] true]) (fun v h' => v = .func (.func 109) #[] #[.pointer (some ⟨h.length + 2, 0, none⟩), .pointer (some ⟨h.length + 1, 0, none⟩)] ∧ h' = h ++ [.row [.slice none 0 0] true, .row [I k] true, .row [I n] true]) :=
    (words_spec x.x58 k n _).imp (fun v h' ⟨a, b⟩ => ⟨by rw [a]; simp, by rw [b]; simp⟩)
  refine Fin_call 71 [I k, I n] (by kernel_rfl) (by kernel_rfl) w58 (fun v2 h2 hv2 => ?_)
  obtain ⟨rfl, e2⟩ := hv2
  have l2 : h2.length = h.length + 3 := by rw [e2]; simp
  refine Run 1000 ?_
  have hoc : h2[h.length]? = some (.row [.slice none 0 0] true) := by rw [e2, List.getElem?_append_right (Nat.le_refl _)]; simp
  have hkc : h2[h.length + 1]? = some (.row [I k] true) := by rw [e2, List.getElem?_append_right (by omega)]; simp
  have hnc : h2[h.length + 2]? = some (.row [I n] true) := by rw [e2, List.getElem?_append_right (by omega)]; simp
  have hT := words_len ⟨k, by omega⟩ ⟨n, by omega⟩
  have key : ∀ ts : List Value, ts.length = Tryz.f38.ntmps → ts.getD 5 undef = .pointer (some ⟨h.length, 0, none⟩) →
      Ca Tryz.prog X (.fn 109) ([] ++ [.func (.yield h2.length) #[] #[]] ++ [.pointer (some ⟨h.length + 2, 0, none⟩), .pointer (some ⟨h.length + 1, 0, none⟩)]) (h2 ++ [.loop .ready none ts [10] ringAs ringBd])
        (fun v h' => Outs h2.length h.length (h2.length + 3) ts [10] ringAs ringBd ringOut (wordsL k n) h' ∧ Keep (h2.length + 3) h2.length h.length (ownVars (h2 ++ [.loop .ready none ts [10] ringAs ringBd]) h2.length (h.length + 2) (h.length + 1)) h') := by
    intro ts ht h5
    have hlen : (h2 ++ [AObj.loop .ready none ts [10] ringAs ringBd]).length = h2.length + 1 := by simp
    have Y := ring_yields x (k := k) (n := n) (l := h2.length) (oc := h.length) (B := h2.length + 3) hn1 hn hT (by omega) (by omega) (by omega) ht h5
    have := words1_spec (X := X) x.x76 x.x77 (k := k) (n := n) (l := h2.length) (m := h.length) (nc := h.length + 2) (kc := h.length + 1) (Iv := fun L h' => Outs h2.length h.length (h2.length + 3) ts [10] ringAs ringBd ringOut L h') (h2 ++ [AObj.loop .ready none ts [10] ringAs ringBd]) hk (by omega)
      (by rw [List.getElem?_append_left (by omega)]; exact hnc) (by rw [List.getElem?_append_left (by omega)]; exact hkc) ⟨by omega, by omega⟩ ⟨by omega, by omega⟩ (by omega) (by omega) (by rw [hlen]; exact Y) ?_
    · rw [hlen] at this; exact this
    · refine ⟨?_, ⟨.slice none 0 0, ?_, ?_⟩, ?_⟩
      · unfold ownVars; rw [List.append_assoc, List.getElem?_append_left (by omega), List.getElem?_append_right (Nat.le_refl _)]; simp
      · unfold ownVars; rw [List.append_assoc, List.getElem?_append_left (by omega), List.getElem?_append_left (by omega)]; exact hoc
      · refine ⟨by simp; omega, fun j hj => ?_, Or.inl ⟨by simp [ringOut], rfl⟩⟩
        simp at hj; rw [List.getElem?_take, if_pos (by omega)]
      · simp [ownVars]
  refine RangeF 109 [] [.pointer (some ⟨h.length + 2, 0, none⟩), .pointer (some ⟨h.length + 1, 0, none⟩)] [10] ringAs ringBd ?_ rfl (key _ (by simp) (by kernel_rfl)) (fun v h' hv => ?_)
  · kernel_rfl
  obtain ⟨o, K⟩ := hv
  obtain ⟨v, hv, A⟩ := o.out
  have hle := K.len
  refine ⟨.ready, none, _, [10], ringAs, ringBd, .normal, o.lp, by simp, rfl, ?_⟩
  refine Run 1000 ?_
  have hne : h2.length ≠ h.length := by omega
  refine Load 27 (.pointer (some ⟨h.length, 0, none⟩)) v (by kernel_rfl) (by kernel_rfl) (load_row ti22 rfl (by rw [List.getElem?_set_ne hne]; exact hv) rfl) ?_
  refine Run 1000 ?_
  refine Fin_r (by kernel_rfl) ⟨Or.inr rfl, v, by kernel_rfl, ?_⟩
  have hlh : h2.length < h'.length := lt_of_get o.lp
  refine ⟨by simp; omega, fun j hj => ?_, ?_⟩
  · rw [List.getElem?_set_ne (by omega), K.low j (by omega) (by omega) (by omega)]
    unfold ownVars
    rw [List.append_assoc, List.getElem?_append_left (by simp; omega), List.getElem?_append_left (by omega), e2, List.getElem?_append_left hj]
  · rcases A.val with e | ⟨b, hb, e, hr⟩
    · exact Or.inl e
    · have hb' : h2.length + 3 ≤ b := by have := o.le; simp at hb; omega
      exact Or.inr ⟨b, by omega, e, by rw [List.getElem?_set_ne (by omega)]; exact hr⟩
end Go.Proofs.YtpbmpdocgplhpaaGreatDoor

/-
  flag.open without a code; flag.Rings.
-/
set_option linter.unusedSimpArgs false
set_option linter.unusedVariables false
set_option maxRecDepth 100000
namespace Go.Proofs.YtpbmpdocgplhpaaGreatDoor
open Go Go.AM

theorem inRange_iff {k n : Int} : inRange k n = true ↔ (1 ≤ k ∧ k ≤ 4 ∧ 1 ≤ n ∧ n ≤ 5) := by simp [inRange]
theorem open_nil {X : Ext} (hX : X 37 = none) (k n : Int) (h : AHeap) :
    Ca Tryz.prog X (.fn 37) [I k, I n, .slice none 0 0] h (fun v h' => v = I (if inRange k n = true then 0 else 1) ∧ h' = h) := by
  have no : ¬(1 ≤ k ∧ k ≤ 4 ∧ 1 ≤ n ∧ n ≤ 5) → I 1 = I (if inRange k n = true then 0 else 1) := by
    intro hh; rw [if_neg (fun h => hh (inRange_iff.1 h))]
  refine Ca_fn (fn := Tryz.f37) (c := Tryz.f37.body.getD .skip) hX (by kernel_rfl) (by kernel_rfl) (by kernel_rfl) ?_
  refine Run 1000 ?_
  refine Fin_g (k < 1) (by kernel_rfl) (by kernel_rfl) (fun h1 => ?_) (fun h1 => ?_)
  · refine Run 1000 ?_
    refine Fin_gB true (by kernel_rfl) (by kernel_rfl) ?_
    refine Run 1000 ?_
    refine Fin_gB true (by kernel_rfl) (by kernel_rfl) ?_
    refine Run 1000 ?_
    refine Fin_cB true (by kernel_rfl) ?_
    refine Run 1000 ?_
    exact Fin_r (by kernel_rfl) ⟨Or.inr rfl, (I 1), by kernel_rfl, no (by omega), rfl⟩
  · refine Run 1000 ?_
    refine Fin_g (k > 4) (by kernel_rfl) (by kernel_rfl) (fun h2 => ?_) (fun h2 => ?_)
    · refine Run 1000 ?_
      refine Fin_gB true (by kernel_rfl) (by kernel_rfl) ?_
      refine Run 1000 ?_
      refine Fin_cB true (by kernel_rfl) ?_
      refine Run 1000 ?_
      exact Fin_r (by kernel_rfl) ⟨Or.inr rfl, (I 1), by kernel_rfl, no (by omega), rfl⟩
    · refine Run 1000 ?_
      refine Fin_g (n < 1) (by kernel_rfl) (by kernel_rfl) (fun h3 => ?_) (fun h3 => ?_)
      · refine Run 1000 ?_
        refine Fin_cB true (by kernel_rfl) ?_
        refine Run 1000 ?_
        exact Fin_r (by kernel_rfl) ⟨Or.inr rfl, (I 1), by kernel_rfl, no (by omega), rfl⟩
      · refine Run 1000 ?_
        refine Fin_c (n > 5) (by kernel_rfl) (fun h4 => ?_) (fun h4 => ?_)
        · refine Run 1000 ?_
          exact Fin_r (by kernel_rfl) ⟨Or.inr rfl, (I 1), by kernel_rfl, no (by omega), rfl⟩
        · refine Run 1000 ?_
          refine Fin_unrl ?_
          refine Run 1000 ?_
          refine Fin_c ((0 : Int) < (0 : Nat)) (by kernel_rfl) (fun h4 => absurd h4 (by decide)) (fun h4 => ?_)
          refine Run 1000 ?_
          refine Fin_r (by kernel_rfl) ⟨Or.inr rfl, (I 0), by kernel_rfl, ?_, rfl⟩
          rw [if_pos (inRange_iff.2 (by omega))]

end Go.Proofs.YtpbmpdocgplhpaaGreatDoor
