/-
  slices.Sort of up to twelve strings: the insertion sort.
-/
import Derived.Test.YtpbmpdocgplhpaaDoorPw
import Derived.Test.YtpbmpdocgplhpaaDoorVc9
set_option linter.unusedSimpArgs false
set_option linter.unusedVariables false
set_option maxRecDepth 100000
namespace Go.Proofs.YtpbmpdocgplhpaaDoor
open Go Go.AM

theorem strs_get {L : List ByteArray} {i : Nat} {a : ByteArray} (h : L[i]? = some a) : (strs L)[i]? = some (.string a) := by simp [strs, h]
theorem strs_set (L : List ByteArray) (i : Nat) (a : ByteArray) (h : i < L.length) : splice (strs L) i [.string a] = strs (L.set i a) := by
  simp only [splice, strs, List.length_singleton]
  rw [List.set_eq_take_append_cons_drop, if_pos h]
  simp [List.map_take, List.map_drop]
theorem load_str {h : AHeap} {b o i : Nat} {own : Bool} {L : List ByteArray} {a : ByteArray} (hb : h[b]? = some (.row (strs L) own)) (ho : o = i) (ha : L[i]? = some a) : aload Tryd.prog h 9 (.pointer (some ⟨b, o, none⟩)) = some (.string a) := by
  subst ho; exact load_row ti9 rfl hb (strs_get ha)
theorem store_str {h0 : AHeap} {b o i : Nat} {L : List ByteArray} {a : ByteArray} (hb : b < h0.length) (ho : o = i) (hi : i < L.length) :
    astore Tryd.prog (h0.set b (.row (strs L) true)) 9 (.pointer (some ⟨b, o, none⟩)) (.string a) = some (h0.set b (.row (strs (L.set i a)) true)) := by
  subst ho
  rw [store_row (cs := strs L) ti9 rfl rfl rfl rfl (by simp [hb]) (by rw [strs_length]; exact hi), List.set_set, strs_set _ _ _ hi]
theorem wrap_pred {j : Nat} (h : 0 < j) (h2 : j < 9223372036854775807) : IntKind.wrap .i64 ((j : Int) - 1) = ((j - 1 : Nat) : Int) := by
  rw [wrap_small (by omega) (by omega)]; omega

theorem nan_spec {X : Ext} (hX : X 129 = none) (a : ByteArray) (h : AHeap) : Ca Tryd.prog X (.fn 129) [.string a] h (fun v h' => v = .bool false ∧ h' = h) := by
  refine Ca_fn (fn := Tryd.f129) (c := Tryd.f129.body.getD .skip) hX (by kernel_rfl) (by kernel_rfl) (by kernel_rfl) ?_
  refine Run 1000 ?_
  refine Fin_r (by kernel_rfl) ⟨Or.inr rfl, .bool (!(seq a a)), by kernel_rfl, ?_, rfl⟩
  simp [seq]
theorem less_spec {X : Ext} (hX : X 106 = none) (hX2 : X 129 = none) (a b : ByteArray) (h : AHeap) : Ca Tryd.prog X (.fn 106) [.string a, .string b] h (fun v h' => v = .bool (ltS a b) ∧ h' = h) := by
  refine Ca_fn (fn := Tryd.f106) (c := Tryd.f106.body.getD .skip) hX (by kernel_rfl) (by kernel_rfl) (by kernel_rfl) ?_
  refine Run 1000 ?_
  refine Fin_call 129 [.string a] (by kernel_rfl) (by kernel_rfl) (nan_spec hX2 a h) (fun v1 hh1 hv1 => ?_)
  obtain ⟨rfl, rfl⟩ := hv1
  refine Run 1000 ?_
  refine Fin_gB false (by kernel_rfl) (by kernel_rfl) ?_
  refine Run 1000 ?_
  refine Fin_gB false (by kernel_rfl) (by kernel_rfl) ?_
  refine Run 1000 ?_
  exact Fin_r (by kernel_rfl) ⟨Or.inr rfl, .bool (ltS a b), by kernel_rfl, rfl, rfl⟩

theorem ins_inner {X : Ext} (hX : X 106 = none) (hX2 : X 129 = none) {Q : AExit → FS → Prop} (h0 : AHeap) (b kk N : Nat) (hb : b < h0.length) (hN : N < 1000000) (i : Nat) (hi : i < N) :
    ∀ (j : Nat) (f : Nat → Value) (L : List ByteArray), j ≤ i → L.length = N →
    Knows f [(0, .slice (some ⟨b, 0, some 1⟩) N kk), (1, I 0), (2, I N), (6, I i), (7, I j)] →
    (∀ f', Knows f' [(0, .slice (some ⟨b, 0, some 1⟩) N kk), (1, I 0), (2, I N), (6, I (i + 1 : Nat))] → Fin Tryd.prog X none Tryd.f100.ntmps (lpN Tryd.f100 0) .normal ⟨f', h0.set b (.row (strs (sinkM ltS j L)) true)⟩ Q) →
    Fin Tryd.prog X none Tryd.f100.ntmps (lpN Tryd.f100 1) .normal ⟨f, h0.set b (.row (strs L) true)⟩ Q := by
  have hset : ∀ r, (h0.set b r)[b]? = some r := by intro r; simp [hb]
  intro j
  induction j with
  | zero =>
    intro f L hj hL hf K
    refine Fin_known _ hf ?_
    refine Fin_unrl ?_
    refine Run 1000 ?_
    refine Draw (by kernel_rfl) ?_
    refine Run 1000 ?_
    refine Fin_g (((0 : Nat) : Int) > 0) (by kernel_rfl) (by kernel_rfl) (fun h1 => by omega) (fun h1 => ?_)
    refine Run 1000 ?_
    refine Fin_cB false (by kernel_rfl) ?_
    refine Run 1000 ?_
    refine Fin_goto (lpN Tryd.f100 0) (h0.set b (.row (strs L) true)) [(0, .slice (some ⟨b, 0, some 1⟩) N kk), (1, I 0), (2, I N), (6, I (IntKind.wrap .i64 ((i : Int) + 1)))] (by kernel_rfl) (by kernel_rfl) (by kernel_rfl) (fun f' hf' => ?_)
    rw [wrap_next (n := N) hi (by omega)] at hf'
    exact K f' hf'
  | succ j ih =>
    intro f L hj hL hf K
    obtain ⟨a, ha⟩ : ∃ a, L[j + 1]? = some a := ⟨L[j + 1]'(by omega), List.getElem?_eq_getElem _⟩
    obtain ⟨c, hc⟩ : ∃ c, L[j]? = some c := ⟨L[j]'(by omega), List.getElem?_eq_getElem _⟩
    have hw : IntKind.wrap .i64 (((j + 1 : Nat) : Int) - 1) = (j : Int) := by rw [wrap_pred (by omega) (by omega)]; simp
    refine Fin_known _ hf ?_
    refine Fin_unrl ?_
    refine Run 1000 ?_
    refine Draw (by kernel_rfl) ?_
    refine Run 1000 ?_
    refine Fin_g (((j + 1 : Nat) : Int) > 0) (by kernel_rfl) (by kernel_rfl) (fun h1 => ?_) (fun h1 => by omega)
    refine Run 1000 ?_
    refine IdxA 22 b 0 1 N kk .i64 (j + 1 : Nat) (by kernel_rfl) (by kernel_rfl) ti22 rfl ti9 rfl (by omega) (by omega) ?_
    refine Run 1000 ?_
    refine Load 9 (.pointer (some ⟨b, 0 + ((j + 1 : Nat) : Int).toNat * 1, none⟩)) (.string a) (by kernel_rfl) (by kernel_rfl) (load_str (hset _) (by simp) ha) ?_
    refine Run 1000 ?_
    refine IdxA 22 b 0 1 N kk .i64 (IntKind.wrap .i64 (((j + 1 : Nat) : Int) - 1)) (by kernel_rfl) (by kernel_rfl) ti22 rfl ti9 rfl (by omega) (by omega) ?_
    refine Run 1000 ?_
    refine Load 9 (.pointer (some ⟨b, 0 + (IntKind.wrap .i64 (((j + 1 : Nat) : Int) - 1)).toNat * 1, none⟩)) (.string c) (by kernel_rfl) (by kernel_rfl) (load_str (hset _) (by rw [hw]; simp) hc) ?_
    refine Run 1000 ?_
    refine Fin_call 106 [.string a, .string c] (by kernel_rfl) (by kernel_rfl) (less_spec hX hX2 a c _) (fun v6 hh6 hv6 => ?_)
    obtain ⟨rfl, rfl⟩ := hv6
    refine Run 1000 ?_
    refine Fin_cB (ltS a c) (by kernel_rfl) ?_
    cases hlt : ltS a c with
    | true =>
      refine Run 1000 ?_
      refine Draw (by kernel_rfl) ?_
      refine Run 1000 ?_
      refine IdxA 22 b 0 1 N kk .i64 (IntKind.wrap .i64 (((j + 1 : Nat) : Int) - 1)) (by kernel_rfl) (by kernel_rfl) ti22 rfl ti9 rfl (by omega) (by omega) ?_
      refine Run 1000 ?_
      refine Load 9 (.pointer (some ⟨b, 0 + (IntKind.wrap .i64 (((j + 1 : Nat) : Int) - 1)).toNat * 1, none⟩)) (.string c) (by kernel_rfl) (by kernel_rfl) (load_str (hset _) (by rw [hw]; simp) hc) ?_
      refine Run 1000 ?_
      refine IdxA 22 b 0 1 N kk .i64 (j + 1 : Nat) (by kernel_rfl) (by kernel_rfl) ti22 rfl ti9 rfl (by omega) (by omega) ?_
      refine Run 1000 ?_
      refine Load 9 (.pointer (some ⟨b, 0 + ((j + 1 : Nat) : Int).toNat * 1, none⟩)) (.string a) (by kernel_rfl) (by kernel_rfl) (load_str (hset _) (by simp) ha) ?_
      refine Run 1000 ?_
      refine IdxA 22 b 0 1 N kk .i64 (j + 1 : Nat) (by kernel_rfl) (by kernel_rfl) ti22 rfl ti9 rfl (by omega) (by omega) ?_
      refine Run 1000 ?_
      refine Store 9 (.pointer (some ⟨b, 0 + ((j + 1 : Nat) : Int).toNat * 1, none⟩)) (.string c) (h0.set b (.row (strs (L.set (j + 1) c)) true)) (by kernel_rfl) (by kernel_rfl) (store_str hb (by simp) (by omega)) ?_
      refine Run 1000 ?_
      refine IdxA 22 b 0 1 N kk .i64 (IntKind.wrap .i64 (((j + 1 : Nat) : Int) - 1)) (by kernel_rfl) (by kernel_rfl) ti22 rfl ti9 rfl (by omega) (by omega) ?_
      refine Run 1000 ?_
      refine Store 9 (.pointer (some ⟨b, 0 + (IntKind.wrap .i64 (((j + 1 : Nat) : Int) - 1)).toNat * 1, none⟩)) (.string a) (h0.set b (.row (strs ((L.set (j + 1) c).set j a)) true)) (by kernel_rfl) (by kernel_rfl) (store_str hb (by rw [hw]; simp) (by simp; omega)) ?_
      refine Run 1000 ?_
      refine Fin_goto (lpN Tryd.f100 1) (h0.set b (.row (strs ((L.set (j + 1) c).set j a)) true)) [(0, .slice (some ⟨b, 0, some 1⟩) N kk), (1, I 0), (2, I N), (6, I i), (7, I (IntKind.wrap .i64 (((j + 1 : Nat) : Int) - 1)))] (by kernel_rfl) (by kernel_rfl) (by kernel_rfl) (fun f' hf' => ?_)
      rw [hw] at hf'
      refine ih f' _ (by omega) (by simpa using hL) hf' (fun f2 hf2 => ?_)
      have := K f2 hf2
      simpa only [sinkM, ha, hc, hlt, if_true] using this
    | false =>
      refine Run 1000 ?_
      refine Fin_goto (lpN Tryd.f100 0) (h0.set b (.row (strs L) true)) [(0, .slice (some ⟨b, 0, some 1⟩) N kk), (1, I 0), (2, I N), (6, I (IntKind.wrap .i64 ((i : Int) + 1)))] (by kernel_rfl) (by kernel_rfl) (by kernel_rfl) (fun f' hf' => ?_)
      rw [wrap_next (n := N) hi (by omega)] at hf'
      have := K f' hf'
      simpa only [sinkM, ha, hc, hlt, Bool.false_eq_true, if_false] using this
end Go.Proofs.YtpbmpdocgplhpaaDoor
