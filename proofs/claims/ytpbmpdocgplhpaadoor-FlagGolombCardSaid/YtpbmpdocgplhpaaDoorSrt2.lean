/-
  slices.Sort of up to twelve strings, whole; slices.Compact; sorted.
-/
import Derived.Test.YtpbmpdocgplhpaaDoorSrt
set_option linter.unusedSimpArgs false
set_option linter.unusedVariables false
set_option maxRecDepth 100000
namespace Go.Proofs.YtpbmpdocgplhpaaDoor
open Go Go.AM

theorem wrap_u8 {x : Int} (h0 : 0 ≤ x) (h1 : x < 256) : IntKind.wrap .u8 x = x := by
  simp [IntKind.wrap, IntKind.bits, IntKind.signed]; omega
theorem wrap_u64 {x : Int} (h0 : 0 ≤ x) (h1 : x < 18446744073709551616) : IntKind.wrap .u64 x = x := by
  simp [IntKind.wrap, IntKind.bits, IntKind.signed]; omega
theorem ins_outer {X : Ext} (hX : X 106 = none) (hX2 : X 129 = none) (h0 : AHeap) (b kk N : Nat) (hb : b < h0.length) (hN : N < 1000000) :
    ∀ (t i : Nat) (f : Nat → Value) (L : List ByteArray), i + t = N → L.length = N →
    Knows f [(0, .slice (some ⟨b, 0, some 1⟩) N kk), (1, I 0), (2, I N), (6, I i)] →
    Fin Tryd.prog X none Tryd.f100.ntmps (lpN Tryd.f100 0) .normal ⟨f, h0.set b (.row (strs L) true)⟩ (fun e y => (e = .normal ∨ e = .ret) ∧ ∃ v, fresults Tryd.prog Tryd.f100.results.toList y = some v ∧ y.h = h0.set b (.row (strs (isortM ltS t i L)) true)) := by
  intro t
  induction t with
  | zero =>
    intro i f L hi hL hf
    refine Fin_known _ hf ?_
    refine Fin_unrl ?_
    refine Run 1000 ?_
    refine Fin_c ((i : Int) < N) (by kernel_rfl) (fun h1 => by omega) (fun h1 => ?_)
    refine Run 1000 ?_
    exact Fin_e (by kernel_rfl) ⟨Or.inl rfl, .tuple #[], by kernel_rfl, rfl⟩
  | succ t ih =>
    intro i f L hi hL hf
    refine Fin_known _ hf ?_
    refine Fin_unrl ?_
    refine Run 1000 ?_
    refine Fin_c ((i : Int) < N) (by kernel_rfl) (fun h1 => ?_) (fun h1 => by omega)
    refine Run 1000 ?_
    refine Fin_goto (lpN Tryd.f100 1) (h0.set b (.row (strs L) true)) [(0, .slice (some ⟨b, 0, some 1⟩) N kk), (1, I 0), (2, I N), (6, I i), (7, I i)] (by kernel_rfl) (by kernel_rfl) (by kernel_rfl) (fun f' hf' => ?_)
    refine ins_inner hX hX2 h0 b kk N hb hN i (by omega) i f' L (Nat.le_refl i) hL hf' (fun f2 hf2 => ?_)
    exact ih (i + 1) f2 (sinkM ltS i L) (by omega) (by rw [sinkM_length]; exact hL) hf2
theorem ins_spec {X : Ext} (hX0 : X 100 = none) (hX : X 106 = none) (hX2 : X 129 = none) (h : AHeap) (b kk : Nat) (L : List ByteArray) (hb : h[b]? = some (.row (strs L) true)) (hN : L.length < 1000000) :
    Ca Tryd.prog X (.fn 100) [.slice (some ⟨b, 0, some 1⟩) L.length kk, I 0, I L.length] h (fun v h' => h' = h.set b (.row (strs (sortM ltS L)) true)) := by
  refine Ca_fn (fn := Tryd.f100) (c := Tryd.f100.body.getD .skip) hX0 (by kernel_rfl) (by kernel_rfl) (by kernel_rfl) ?_
  have hlt : b < h.length := lt_of_get hb
  have hh : h = h.set b (.row (strs L) true) := by
    apply List.ext_getElem?
    intro j
    by_cases e : b = j
    · subst e; rw [List.getElem?_set_self hlt, hb]
    · rw [List.getElem?_set_ne e]
  refine Run 1000 ?_
  refine Fin_goto (lpN Tryd.f100 0) h [(0, .slice (some ⟨b, 0, some 1⟩) L.length kk), (1, I 0), (2, I L.length), (6, I (1 : Nat))] (by kernel_rfl) (by kernel_rfl) (by kernel_rfl) (fun f' hf' => ?_)
  by_cases h1 : 1 ≤ L.length
  · have key := ins_outer hX hX2 h b kk L.length hlt hN (L.length - 1) 1 f' L (by omega) rfl hf' (X := X)
    rw [← hh] at key
    exact key
  · have hnil : L = [] := List.eq_nil_of_length_eq_zero (by omega)
    subst hnil
    refine Fin_known _ hf' ?_
    refine Fin_unrl ?_
    refine Run 1000 ?_
    refine Fin_c (((1 : Nat) : Int) < (0 : Nat)) (by kernel_rfl) (fun h1 => by omega) (fun h1 => ?_)
    refine Run 1000 ?_
    exact Fin_e (by kernel_rfl) ⟨Or.inl rfl, .tuple #[], by kernel_rfl, hh⟩

theorem len64_spec {X : Ext} (hX : X 110 = none) (x : Int) (h0 : 0 ≤ x) (h1 : x < 256) (h : AHeap) : Ca Tryd.prog X (.fn 110) [.int .u64 x] h (fun v h' => (∃ r, v = I r) ∧ h' = h) := by
  refine Ca_fn (fn := Tryd.f110) (c := Tryd.f110.body.getD .skip) hX (by kernel_rfl) (by kernel_rfl) (by kernel_rfl) ?_
  refine Run 1000 ?_
  refine Fin_c (x ≥ 4294967296) (by kernel_rfl) (fun h2 => by omega) (fun h2 => ?_)
  refine Run 1000 ?_
  refine Fin_c (x ≥ 65536) (by kernel_rfl) (fun h2 => by omega) (fun h2 => ?_)
  refine Run 1000 ?_
  refine Fin_c (x ≥ 256) (by kernel_rfl) (fun h2 => by omega) (fun h2 => ?_)
  refine Run 1000 ?_
  have hw : IntKind.wrap .u8 x = x := wrap_u8 h0 h1
  refine IdxV 9 .u8 (IntKind.wrap .u8 x) 256 (by kernel_rfl) (by kernel_rfl) ti9 rfl (by kernel_rfl) (by omega) (by omega) (fun c => ?_)
  refine Run 1000 ?_
  exact Fin_r (by kernel_rfl) ⟨Or.inr rfl, I (IntKind.wrap .i64 (0 + IntKind.wrap .i64 c.toNat)), by kernel_rfl, ⟨_, rfl⟩, rfl⟩
theorem len_spec {X : Ext} (hX0 : X 92 = none) (hX : X 110 = none) (x : Int) (h0 : 0 ≤ x) (h1 : x < 256) (h : AHeap) : Ca Tryd.prog X (.fn 92) [.int .u64 x] h (fun v h' => (∃ r, v = I r) ∧ h' = h) := by
  refine Ca_fn (fn := Tryd.f92) (c := Tryd.f92.body.getD .skip) hX0 (by kernel_rfl) (by kernel_rfl) (by kernel_rfl) ?_
  refine Run 1000 ?_
  refine Fin_cB false (by kernel_rfl) ?_
  refine Run 1000 ?_
  refine Fin_call 110 [.int .u64 x] (by kernel_rfl) (by kernel_rfl) (len64_spec hX x h0 h1 h) (fun v1 hh1 hv1 => ?_)
  obtain ⟨⟨r, rfl⟩, rfl⟩ := hv1
  refine Run 1000 ?_
  exact Fin_r (by kernel_rfl) ⟨Or.inr rfl, I r, by kernel_rfl, ⟨_, rfl⟩, rfl⟩

theorem pdq_small {X : Ext} (hX91 : X 91 = none) (hX0 : X 100 = none) (hX : X 106 = none) (hX2 : X 129 = none) (h : AHeap) (b kk : Nat) (lm : Int) (L : List ByteArray) (hb : h[b]? = some (.row (strs L) true)) (hN : L.length ≤ 12) :
    Ca Tryd.prog X (.fn 91) [.slice (some ⟨b, 0, some 1⟩) L.length kk, I 0, I L.length, I lm] h (fun v h' => h' = h.set b (.row (strs (sortM ltS L)) true)) := by
  refine Ca_fn (fn := Tryd.f91) (c := Tryd.f91.body.getD .skip) hX91 (by kernel_rfl) (by kernel_rfl) (by kernel_rfl) ?_
  refine Run 1000 ?_
  refine Fin_unrl ?_
  refine Run 1000 ?_
  have hw : IntKind.wrap .i64 ((L.length : Int) - 0) = L.length := by rw [wrap_small (by omega) (by omega)]; omega
  refine Fin_c (IntKind.wrap .i64 ((L.length : Int) - 0) ≤ 12) (by kernel_rfl) (fun h1 => ?_) (fun h1 => by omega)
  refine Run 1000 ?_
  refine Fin_call 100 [.slice (some ⟨b, 0, some 1⟩) L.length kk, I 0, I L.length] (by kernel_rfl) (by kernel_rfl) (ins_spec hX0 hX hX2 h b kk L hb (by omega)) (fun v2 hh2 hv2 => ?_)
  refine Run 1000 ?_
  exact Fin_r (by kernel_rfl) ⟨Or.inr rfl, .tuple #[], by kernel_rfl, hv2⟩

structure SortX (X : Ext) : Prop where
  x78 : X 78 = none
  x92 : X 92 = none
  x110 : X 110 = none
  x91 : X 91 = none
  x100 : X 100 = none
  x106 : X 106 = none
  x129 : X 129 = none
  x79 : X 79 = none
  x64 : X 64 = none
theorem sort_small {X : Ext} (x : SortX X) (h : AHeap) (b kk : Nat) (L : List ByteArray) (hb : h[b]? = some (.row (strs L) true)) (hN : L.length ≤ 12) :
    Ca Tryd.prog X (.fn 78) [.slice (some ⟨b, 0, some 1⟩) L.length kk] h (fun v h' => h' = h.set b (.row (strs (sortM ltS L)) true)) := by
  refine Ca_fn (fn := Tryd.f78) (c := Tryd.f78.body.getD .skip) x.x78 (by kernel_rfl) (by kernel_rfl) (by kernel_rfl) ?_
  refine Run 1000 ?_
  have hw : IntKind.wrap .u64 (L.length : Int) = L.length := wrap_u64 (by omega) (by omega)
  refine Fin_call 92 [.int .u64 (IntKind.wrap .u64 (L.length : Int))] (by kernel_rfl) (by kernel_rfl) (len_spec x.x92 x.x110 _ (by omega) (by omega) h) (fun v1 hh1 hv1 => ?_)
  obtain ⟨⟨r, rfl⟩, rfl⟩ := hv1
  refine Run 1000 ?_
  refine Fin_call 91 [.slice (some ⟨b, 0, some 1⟩) L.length kk, I 0, I L.length, I r] (by kernel_rfl) (by kernel_rfl) (pdq_small x.x91 x.x100 x.x106 x.x129 _ b kk r L hb hN) (fun v2 hh2 hv2 => ?_)
  refine Run 1000 ?_
  exact Fin_e (by kernel_rfl) ⟨Or.inl rfl, .tuple #[], by kernel_rfl, hv2⟩
end Go.Proofs.YtpbmpdocgplhpaaDoor
