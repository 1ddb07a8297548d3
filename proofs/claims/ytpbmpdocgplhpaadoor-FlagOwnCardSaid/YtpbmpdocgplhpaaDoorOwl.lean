/-
  'FlagOwn', walked.
-/
import Derived.Test.YtpbmpdocgplhpaaDoorGrow
import Derived.Test.YtpbmpdocgplhpaaDoorGrowPl
import Derived.Test.YtpbmpdocgplhpaaDoorSortNil
import Derived.Test.YtpbmpdocgplhpaaDoorFreeW
import Derived.Test.YtpbmpdocgplhpaaDoorOwn
import Derived.Test.YtpbmpdocgplhpaaDoorRdK
import Derived.Test.YtpbmpdocgplhpaaDoorMH
import Derived.Test.YtpbmpdocgplhpaaDoorTnPl
import Derived.Test.YtpbmpdocgplhpaaDoorLawKit
set_option linter.unusedSimpArgs false
set_option linter.unusedVariables false
set_option maxRecDepth 100000
namespace Go.Proofs.YtpbmpdocgplhpaaDoor
open Go Go.AM

theorem kp2 : ExtKp AX2 := by
  intro f c hc args h v h' hr
  unfold AX2 at hc
  cases hf : Nat.beq f 22 with
  | true =>
    rw [hf] at hc
    simp only [cond_true, Option.some.injEq] at hc
    subst hc
    cases args with
    | nil => simp only [awakeC, Option.some.injEq, Prod.mk.injEq] at hr; rw [← hr.2]; exact Kp.refl _
    | cons a l => simp [awakeC] at hr
  | false =>
    rw [hf] at hc
    cases hf9 : Nat.beq f 99 with
    | false => rw [hf9] at hc; simp at hc
    | true =>
      rw [hf9] at hc
      simp only [cond_false, cond_true, Option.some.injEq] at hc
      subst hc
      unfold decC at hr
      split at hr
      · split at hr
        · simp only [Option.some.injEq, Prod.mk.injEq] at hr; rw [← hr.2]; exact Kp.refl _
        · simp at hr
      · simp at hr
theorem growX2 : GrowXX AX2 := ⟨⟨kp2, by kernel_rfl, by kernel_rfl, by kernel_rfl, by kernel_rfl⟩, overX2, by kernel_rfl, by kernel_rfl, by kernel_rfl, by kernel_rfl, by kernel_rfl, by kernel_rfl⟩

theorem ownF_same {L : List ByteArray} (hL : L.length ≤ 1100) (hw : ∀ w ∈ L, w.size ≤ 6) : ownF L = L := by
  unfold ownF
  rw [List.take_of_length_le hL]
  refine (List.map_congr_left (g := id) fun w h => ?_).trans (List.map_id _)
  have := hw w h
  unfold ownS
  rw [show min w.size 6 = w.size by omega]
  apply list_inj
  show tl _ = tl _
  rw [ext_tl, ← tl_length, List.take_length, List.drop_zero]; rfl
/-- The turns, in memory of their own. -/
theorem turnsOf_own {X : Ext} (x : WordX X) (s : ByteArray) (hs : s.size < 1000000) (hw : isWordF s = true) (h : AHeap) :
    Ca Tryd.prog X (.fn 36) [.string s] h (fun v h' => ∃ v1, v = .tuple #[v1, I 0] ∧ GRes h h' v1 (sortedF (turnsTo s s.size))) := by
  have c60 := check_spec x.x60 x.o s hs h
  rw [hw] at c60
  obtain ⟨ho, h1, h5⟩ := isWord_iff.1 hw
  refine Ca_fn (fn := Tryd.f36) (c := Tryd.f36.body.getD .skip) x.x36 (by kernel_rfl) (by kernel_rfl) (by kernel_rfl) ?_
  refine Run 1000 ?_
  refine Fin_call 60 [.string s] (by kernel_rfl) (by kernel_rfl) c60 (fun v1 hh1 hv1 => ?_)
  obtain ⟨rfl, G1⟩ := hv1
  refine RunA 1000 3 ?_
  refine Fin_call 63 [.string s] (by kernel_rfl) (by kernel_rfl) (turns_spec x.r.x63 s (overF_ascii ho) (by omega) hh1) (fun v3 hh3 A3 => ?_)
  have hl := turnsTo_length s s.size
  have G3 := A3.grew
  obtain ⟨b, hb, rfl, hr⟩ := A3.row (by omega)
  refine Run 1000 ?_
  refine Fin_call 64 [.slice (some ⟨b, 0, some 1⟩) (turnsTo s s.size).length ((turnsTo s s.size).length + 1)] (by kernel_rfl) (by kernel_rfl) (sorted_small x.r.s hh3 b _ (turnsTo s s.size) hr (by omega)) (fun v4 hh4 hv4 => ?_)
  obtain ⟨L', kk', rfl, rfl, h3, h4⟩ := hv4
  refine Run 1000 ?_
  have hle := G1.le
  exact Fin_r (by kernel_rfl) ⟨Or.inr rfl, .tuple #[.slice (some ⟨b, 0, some 1⟩) (sortedF (turnsTo s s.size)).length kk', I 0], by kernel_rfl, _, rfl, G1.trans (G3.set (by omega) _), Or.inr ⟨b, kk', L', by omega, rfl, List.getElem?_set_self (lt_of_get hr), h3⟩⟩

section
variable (k n : Nat) (X C gv tv rv : Value)
abbrev oSl (k n : Nat) (X C gv tv rv : Value) : List (Nat × Value) :=
  [(0, I k), (1, I n), (7, X), (8, C), (9, gv), (10, I 0), (11, tv), (12, I 0), (13, rv), (14, I 0)]

theorem fill0 {Q : AExit → FS → Prop} (b kv len : Nat) (hlen : len < 1000000) (I1 : AHeap → Prop) (hI : ∀ h o, I1 h → I1 (h.set b o)) (sl : List (Nat × Value)) (hsl : sl = oSl k n X C gv tv rv)
    (K : ∀ f h, I1 h → Knows f sl → Fin Tryd.prog AX2 none Tryd.f11.ntmps (brk (lpN Tryd.f11 0)) .normal ⟨f, h⟩ Q) (hv : gv = .slice (some ⟨b, 0, some 1⟩) len kv) :
    ∀ (t i : Nat) (f : Nat → Value) (h : AHeap) (M : List ByteArray), i + t = len → len ≤ M.length → h[b]? = some (.row (strs M) true) → I1 h → Knows f (sl ++ [(15, I i)]) →
    Fin Tryd.prog AX2 none Tryd.f11.ntmps (lpN Tryd.f11 0) .normal ⟨f, h⟩ Q := by
  subst hsl
  subst hv
  intro t
  induction t with
  | zero =>
    intro i f h M hi hM hb hI1 hf
    refine Fin_known _ hf ?_
    refine Fin_unrl ?_
    refine Run 1000 ?_
    refine Fin_c ((i : Int) < len) (by kernel_rfl) (fun h1 => by omega) (fun h1 => ?_)
    refine Esc (brk (lpN Tryd.f11 0)) h (oSl k n X C (.slice (some ⟨b, 0, some 1⟩) len kv) tv rv) (by kernel_rfl) rfl (by kernel_rfl) (fun f' hf' => ?_)
    exact K f' h hI1 hf'
  | succ t ih =>
    intro i f h M hi hM hb hI1 hf
    have hbl := lt_of_get hb
    refine Fin_known _ hf ?_
    refine Fin_unrl ?_
    refine Run 1000 ?_
    refine Fin_c ((i : Int) < len) (by kernel_rfl) (fun h1 => ?_) (fun h1 => by omega)
    refine Run 1000 ?_
    refine IdxA 22 b 0 1 len kv .i64 i (by kernel_rfl) (by kernel_rfl) ti22 rfl ti9 rfl (by omega) (by omega) ?_
    refine Run 1000 ?_
    have hst : astore Tryd.prog h 9 (.pointer (some ⟨b, 0 + (i : Int).toNat * 1, none⟩)) (.string ⟨#[63]⟩) = some (h.set b (.row (strs (M.set i ⟨#[63]⟩)) true)) := by
      have := store_str (h0 := h) (b := b) (o := 0 + (i : Int).toNat * 1) (i := i) (L := M) (a := ⟨#[63]⟩) hbl (by simp) (by omega)
      rw [← set_same hb] at this
      exact this
    refine Store 9 (.pointer (some ⟨b, 0 + (i : Int).toNat * 1, none⟩)) (.string ⟨#[63]⟩) (h.set b (.row (strs (M.set i ⟨#[63]⟩)) true)) (by kernel_rfl) (by kernel_rfl) hst ?_
    refine Run 1000 ?_
    refine Fin_goto (lpN Tryd.f11 0) (h.set b (.row (strs (M.set i ⟨#[63]⟩)) true)) (oSl k n X C (.slice (some ⟨b, 0, some 1⟩) len kv) tv rv ++ [(15, I (IntKind.wrap .i64 ((i : Int) + 1)))]) (by kernel_rfl) rfl (by kernel_rfl) (fun f' hf' => ?_)
    rw [wrap_next (n := len) (by omega) (by omega)] at hf'
    exact ih (i + 1) f' _ (M.set i ⟨#[63]⟩) (by omega) (by simpa using hM) (List.getElem?_set_self hbl) (hI h _ hI1) hf'
theorem fillN0 {Q : AExit → FS → Prop} (I1 : AHeap → Prop) (sl : List (Nat × Value)) (hsl : sl = oSl k n X C gv tv rv)
    (K : ∀ f h, I1 h → Knows f sl → Fin Tryd.prog AX2 none Tryd.f11.ntmps (brk (lpN Tryd.f11 0)) .normal ⟨f, h⟩ Q) (hv : gv = .slice none 0 0) :
    ∀ (f : Nat → Value) (h : AHeap), I1 h → Knows f (sl ++ [(15, I (0 : Nat))]) →
    Fin Tryd.prog AX2 none Tryd.f11.ntmps (lpN Tryd.f11 0) .normal ⟨f, h⟩ Q := by
  subst hsl
  subst hv
  intro f h hI1 hf
  refine Fin_known _ hf ?_
  refine Fin_unrl ?_
  refine Run 1000 ?_
  refine Fin_c (((0 : Nat) : Int) < (0 : Nat)) (by kernel_rfl) (fun h1 => by omega) (fun h1 => ?_)
  refine Esc (brk (lpN Tryd.f11 0)) h (oSl k n X C (.slice none 0 0) tv rv) (by kernel_rfl) rfl (by kernel_rfl) (fun f' hf' => ?_)
  exact K f' h hI1 hf'

theorem fill1 {Q : AExit → FS → Prop} (b kv len : Nat) (hlen : len < 1000000) (I1 : AHeap → Prop) (hI : ∀ h o, I1 h → I1 (h.set b o)) (sl : List (Nat × Value)) (hsl : sl = oSl k n X C gv tv rv)
    (K : ∀ f h, I1 h → Knows f sl → Fin Tryd.prog AX2 none Tryd.f11.ntmps (brk (lpN Tryd.f11 1)) .normal ⟨f, h⟩ Q) (hv : tv = .slice (some ⟨b, 0, some 1⟩) len kv) :
    ∀ (t i : Nat) (f : Nat → Value) (h : AHeap) (M : List ByteArray), i + t = len → len ≤ M.length → h[b]? = some (.row (strs M) true) → I1 h → Knows f (sl ++ [(16, I i)]) →
    Fin Tryd.prog AX2 none Tryd.f11.ntmps (lpN Tryd.f11 1) .normal ⟨f, h⟩ Q := by
  subst hsl
  subst hv
  intro t
  induction t with
  | zero =>
    intro i f h M hi hM hb hI1 hf
    refine Fin_known _ hf ?_
    refine Fin_unrl ?_
    refine Run 1000 ?_
    refine Fin_c ((i : Int) < len) (by kernel_rfl) (fun h1 => by omega) (fun h1 => ?_)
    refine Esc (brk (lpN Tryd.f11 1)) h (oSl k n X C gv (.slice (some ⟨b, 0, some 1⟩) len kv) rv) (by kernel_rfl) rfl (by kernel_rfl) (fun f' hf' => ?_)
    exact K f' h hI1 hf'
  | succ t ih =>
    intro i f h M hi hM hb hI1 hf
    have hbl := lt_of_get hb
    refine Fin_known _ hf ?_
    refine Fin_unrl ?_
    refine Run 1000 ?_
    refine Fin_c ((i : Int) < len) (by kernel_rfl) (fun h1 => ?_) (fun h1 => by omega)
    refine Run 1000 ?_
    refine IdxA 22 b 0 1 len kv .i64 i (by kernel_rfl) (by kernel_rfl) ti22 rfl ti9 rfl (by omega) (by omega) ?_
    refine Run 1000 ?_
    have hst : astore Tryd.prog h 9 (.pointer (some ⟨b, 0 + (i : Int).toNat * 1, none⟩)) (.string ⟨#[63]⟩) = some (h.set b (.row (strs (M.set i ⟨#[63]⟩)) true)) := by
      have := store_str (h0 := h) (b := b) (o := 0 + (i : Int).toNat * 1) (i := i) (L := M) (a := ⟨#[63]⟩) hbl (by simp) (by omega)
      rw [← set_same hb] at this
      exact this
    refine Store 9 (.pointer (some ⟨b, 0 + (i : Int).toNat * 1, none⟩)) (.string ⟨#[63]⟩) (h.set b (.row (strs (M.set i ⟨#[63]⟩)) true)) (by kernel_rfl) (by kernel_rfl) hst ?_
    refine Run 1000 ?_
    refine Fin_goto (lpN Tryd.f11 1) (h.set b (.row (strs (M.set i ⟨#[63]⟩)) true)) (oSl k n X C gv (.slice (some ⟨b, 0, some 1⟩) len kv) rv ++ [(16, I (IntKind.wrap .i64 ((i : Int) + 1)))]) (by kernel_rfl) rfl (by kernel_rfl) (fun f' hf' => ?_)
    rw [wrap_next (n := len) (by omega) (by omega)] at hf'
    exact ih (i + 1) f' _ (M.set i ⟨#[63]⟩) (by omega) (by simpa using hM) (List.getElem?_set_self hbl) (hI h _ hI1) hf'
theorem fillN1 {Q : AExit → FS → Prop} (I1 : AHeap → Prop) (sl : List (Nat × Value)) (hsl : sl = oSl k n X C gv tv rv)
    (K : ∀ f h, I1 h → Knows f sl → Fin Tryd.prog AX2 none Tryd.f11.ntmps (brk (lpN Tryd.f11 1)) .normal ⟨f, h⟩ Q) (hv : tv = .slice none 0 0) :
    ∀ (f : Nat → Value) (h : AHeap), I1 h → Knows f (sl ++ [(16, I (0 : Nat))]) →
    Fin Tryd.prog AX2 none Tryd.f11.ntmps (lpN Tryd.f11 1) .normal ⟨f, h⟩ Q := by
  subst hsl
  subst hv
  intro f h hI1 hf
  refine Fin_known _ hf ?_
  refine Fin_unrl ?_
  refine Run 1000 ?_
  refine Fin_c (((0 : Nat) : Int) < (0 : Nat)) (by kernel_rfl) (fun h1 => by omega) (fun h1 => ?_)
  refine Esc (brk (lpN Tryd.f11 1)) h (oSl k n X C gv (.slice none 0 0) rv) (by kernel_rfl) rfl (by kernel_rfl) (fun f' hf' => ?_)
  exact K f' h hI1 hf'

theorem fill2 {Q : AExit → FS → Prop} (b kv len : Nat) (hlen : len < 1000000) (I1 : AHeap → Prop) (hI : ∀ h o, I1 h → I1 (h.set b o)) (sl : List (Nat × Value)) (hsl : sl = oSl k n X C gv tv rv)
    (K : ∀ f h, I1 h → Knows f sl → Fin Tryd.prog AX2 none Tryd.f11.ntmps (brk (lpN Tryd.f11 2)) .normal ⟨f, h⟩ Q) (hv : rv = .slice (some ⟨b, 0, some 1⟩) len kv) :
    ∀ (t i : Nat) (f : Nat → Value) (h : AHeap) (M : List ByteArray), i + t = len → len ≤ M.length → h[b]? = some (.row (strs M) true) → I1 h → Knows f (sl ++ [(17, I i)]) →
    Fin Tryd.prog AX2 none Tryd.f11.ntmps (lpN Tryd.f11 2) .normal ⟨f, h⟩ Q := by
  subst hsl
  subst hv
  intro t
  induction t with
  | zero =>
    intro i f h M hi hM hb hI1 hf
    refine Fin_known _ hf ?_
    refine Fin_unrl ?_
    refine Run 1000 ?_
    refine Fin_c ((i : Int) < len) (by kernel_rfl) (fun h1 => by omega) (fun h1 => ?_)
    refine Esc (brk (lpN Tryd.f11 2)) h (oSl k n X C gv tv (.slice (some ⟨b, 0, some 1⟩) len kv)) (by kernel_rfl) rfl (by kernel_rfl) (fun f' hf' => ?_)
    exact K f' h hI1 hf'
  | succ t ih =>
    intro i f h M hi hM hb hI1 hf
    have hbl := lt_of_get hb
    refine Fin_known _ hf ?_
    refine Fin_unrl ?_
    refine Run 1000 ?_
    refine Fin_c ((i : Int) < len) (by kernel_rfl) (fun h1 => ?_) (fun h1 => by omega)
    refine Run 1000 ?_
    refine IdxA 22 b 0 1 len kv .i64 i (by kernel_rfl) (by kernel_rfl) ti22 rfl ti9 rfl (by omega) (by omega) ?_
    refine Run 1000 ?_
    have hst : astore Tryd.prog h 9 (.pointer (some ⟨b, 0 + (i : Int).toNat * 1, none⟩)) (.string ⟨#[63]⟩) = some (h.set b (.row (strs (M.set i ⟨#[63]⟩)) true)) := by
      have := store_str (h0 := h) (b := b) (o := 0 + (i : Int).toNat * 1) (i := i) (L := M) (a := ⟨#[63]⟩) hbl (by simp) (by omega)
      rw [← set_same hb] at this
      exact this
    refine Store 9 (.pointer (some ⟨b, 0 + (i : Int).toNat * 1, none⟩)) (.string ⟨#[63]⟩) (h.set b (.row (strs (M.set i ⟨#[63]⟩)) true)) (by kernel_rfl) (by kernel_rfl) hst ?_
    refine Run 1000 ?_
    refine Fin_goto (lpN Tryd.f11 2) (h.set b (.row (strs (M.set i ⟨#[63]⟩)) true)) (oSl k n X C gv tv (.slice (some ⟨b, 0, some 1⟩) len kv) ++ [(17, I (IntKind.wrap .i64 ((i : Int) + 1)))]) (by kernel_rfl) rfl (by kernel_rfl) (fun f' hf' => ?_)
    rw [wrap_next (n := len) (by omega) (by omega)] at hf'
    exact ih (i + 1) f' _ (M.set i ⟨#[63]⟩) (by omega) (by simpa using hM) (List.getElem?_set_self hbl) (hI h _ hI1) hf'
theorem fillN2 {Q : AExit → FS → Prop} (I1 : AHeap → Prop) (sl : List (Nat × Value)) (hsl : sl = oSl k n X C gv tv rv)
    (K : ∀ f h, I1 h → Knows f sl → Fin Tryd.prog AX2 none Tryd.f11.ntmps (brk (lpN Tryd.f11 2)) .normal ⟨f, h⟩ Q) (hv : rv = .slice none 0 0) :
    ∀ (f : Nat → Value) (h : AHeap), I1 h → Knows f (sl ++ [(17, I (0 : Nat))]) →
    Fin Tryd.prog AX2 none Tryd.f11.ntmps (lpN Tryd.f11 2) .normal ⟨f, h⟩ Q := by
  subst hsl
  subst hv
  intro f h hI1 hf
  refine Fin_known _ hf ?_
  refine Fin_unrl ?_
  refine Run 1000 ?_
  refine Fin_c (((0 : Nat) : Int) < (0 : Nat)) (by kernel_rfl) (fun h1 => by omega) (fun h1 => ?_)
  refine Esc (brk (lpN Tryd.f11 2)) h (oSl k n X C gv tv (.slice none 0 0)) (by kernel_rfl) rfl (by kernel_rfl) (fun f' hf' => ?_)
  exact K f' h hI1 hf'

set_option maxHeartbeats 1000000 in
theorem own_end (hk1 : 1 ≤ k) (hk : k ≤ 3) (hn1 : 1 ≤ n) (hn : n ≤ 3) (a1 a2 : Option Addr) (k1 k2 : Nat) (L : List ByteArray) (hL : L.length < 1000) (eX : X = .slice a1 L.length k1) (eC : C = .slice a2 L.length k2) :
    ∀ (f : Nat → Value) (h : AHeap), (Strs h a1 L ∧ Strs h a2 L) → Knows f (oSl k n X C gv tv rv) → Fin Tryd.prog AX2 none Tryd.f11.ntmps (brk (lpN Tryd.f11 2)) .normal ⟨f, h⟩ (TrueQ Tryd.f11) := by
  subst eX
  subst eC
  intro f h ⟨s1, s2⟩ hf
  have hin : inRange k n = true := inRange_iff.2 (by omega)
  obtain ⟨w, ew⟩ : ∃ w, w = gB (ownWord ⟨#[97, 98, 99]⟩ k n) := ⟨_, rfl⟩
  have c40 := fun h => ow_spec (X := AX2) (by kernel_rfl) ⟨#[97, 98, 99]⟩ (by decide) k n hk1 (by omega) hn1 (by omega) h
  simp only [← ew] at c40
  have hsz : w.size = n := by rw [ew]; exact own_size _ _ _
  have hov : overF k w = true := by rw [ew]; exact own_over _ hk1 (by omega) n
  have hword : isWordF w = true := over_word ⟨hsz, hov⟩ hn1 (by omega)
  have ht := (t_facts hword).2.1
  have hr := rg_ok hin
  simp only [Int.toNat_natCast] at hr
  have c15 := fun h => Rings_spec (X := AX2) (by kernel_rfl) (by kernel_rfl) ringX2 k n h
  simp only [hin, if_true, Int.toNat_natCast] at c15
  have rlen : (ringsF k n).length < 1000000 := by
    have := words_len ⟨k, by omega⟩ ⟨n, by omega⟩
    rw [← ringsF_out]
    unfold ringOut
    rw [List.length_map]
    exact Nat.lt_of_le_of_lt (List.length_filter_le _ _) this
  have tlen : (sortedF (turnsTo w w.size)).length < 1000000 := by
    have h1 := compactM_length seq (sortM ltS (turnsTo w w.size))
    rw [sortM_length, turnsTo_length] at h1
    unfold sortedF; omega
  refine Fin_known _ hf ?_
  refine Run 1000 ?_
  refine Fin_call 15 [I k, I n] (by kernel_rfl) (by kernel_rfl) (c15 h) (fun v1 hh1 hv1 => ?_)
  obtain ⟨v1, rfl, A1⟩ := hv1
  have G1 := A1.grew
  obtain ⟨au, ku, rfl, su⟩ := A1.as_strs
  refine Run 1000 ?_
  refine Fin_call 40 [.string ⟨#[97, 98, 99]⟩, I k, I n] (by kernel_rfl) (by kernel_rfl) (c40 hh1) (fun v2 hh2 hv2 => ?_)
  obtain ⟨rfl, G2⟩ := hv2
  refine Run 1000 ?_
  refine Fin_call 36 [.string w] (by kernel_rfl) (by kernel_rfl) (turnsOf_own wordX2 w (by omega) hword hh2) (fun v3 hh3 hv3 => ?_)
  obtain ⟨v3, rfl, g3⟩ := hv3
  have G3 := g3.1
  obtain ⟨av, kv, rfl, sv⟩ := g3.strs
  refine RunA 1000 10 ?_
  refine Fin_call 18 [.slice a1 L.length k1, .slice a2 L.length k2] (by kernel_rfl) (by kernel_rfl) (by
    have c := texts_spec (X := AX2) (by kernel_rfl) hh3 a1 a2 k1 k2 L L (by omega) (s1.grow (G1.trans (G2.trans G3))) (s2.grow (G1.trans (G2.trans G3)))
    rw [textsF_same] at c; exact c) (fun v4 hh4 hv4 => ?_)
  obtain ⟨rfl, rfl⟩ := hv4
  refine RunA 1000 1 ?_
  refine Fin_call 19 [I k, I n] (by kernel_rfl) (by kernel_rfl) (rrings_spec refX2 k n (by omega) hn1 (by omega) hh4) (fun v5 hh5 A5 => ?_)
  have G5 := A5.grew
  obtain ⟨a5, k5, rfl, s5⟩ := A5.as_strs
  refine Run 1000 ?_
  refine Fin_call 18 [.slice au (ringsF k n).length ku, .slice a5 ((allM k n).filter rRingOK).length k5] (by kernel_rfl) (by kernel_rfl) (by
    have c := texts_spec (X := AX2) (by kernel_rfl) hh5 au a5 ku k5 (ringsF k n) ((allM k n).filter rRingOK) (by omega) (su.grow (G2.trans (G3.trans G5))) s5
    rw [hr] at c; exact c) (fun v6 hh6 hv6 => ?_)
  obtain ⟨rfl, rfl⟩ := hv6
  refine RunA 1000 1 ?_
  refine Fin_call 40 [.string ⟨#[97, 98, 99]⟩, I k, I n] (by kernel_rfl) (by kernel_rfl) (c40 hh6) (fun v7 hh7 hv7 => ?_)
  obtain ⟨rfl, G7⟩ := hv7
  refine Run 1000 ?_
  refine Fin_call 38 [.string w] (by kernel_rfl) (by kernel_rfl) (rturns_spec (X := AX2) (by kernel_rfl) (by kernel_rfl) w (by omega) hh7) (fun v8 hh8 A8 => ?_)
  have G8 := A8.grew
  obtain ⟨a8, k8, rfl, s8⟩ := A8.as_strs
  refine Run 1000 ?_
  refine Fin_call 18 [.slice av (sortedF (turnsTo w w.size)).length kv, .slice a8 (rTurnsTo w w.size).length k8] (by kernel_rfl) (by kernel_rfl) (by
    have c := texts_spec (X := AX2) (by kernel_rfl) hh8 av a8 kv k8 (sortedF (turnsTo w w.size)) (rTurnsTo w w.size) (by omega) (sv.grow (G5.trans (G7.trans G8))) s8
    rw [ht] at c; exact c) (fun v9 hh9 hv9 => ?_)
  obtain ⟨rfl, rfl⟩ := hv9
  refine RunA 1000 1 ?_
  refine Fin_call 22 [] (by kernel_rfl) (by kernel_rfl) (awake_ca2 hh9) (fun v11 hh11 hv11 => ?_)
  obtain ⟨rfl, rfl⟩ := hv11
  refine RunA 1000 10 ?_
  exact Fin_r (by kernel_rfl) ⟨Or.inr rfl, .bool true, by kernel_rfl, rfl⟩

/-- A slice in memory of its own, between two heights. -/
def OwnAt (v : Value) (lo hi : Nat) (h : AHeap) : Prop :=
  v = .slice none 0 0 ∨ ∃ b kk len M, lo ≤ b ∧ b < hi ∧ v = .slice (some ⟨b, 0, some 1⟩) len kk ∧ len ≤ M.length ∧ len < 1000000 ∧ h[b]? = some (.row (strs M) true)
theorem OwnAt.set {v : Value} {lo hi : Nat} {h : AHeap} (o : OwnAt v lo hi h) {b : Nat} (hb : b < lo) (x : AObj) : OwnAt v lo hi (h.set b x) := by
  rcases o with e | ⟨b2, kk, len, M, h1, h2, e, hM, hl, hr⟩
  · exact Or.inl e
  · exact Or.inr ⟨b2, kk, len, M, h1, h2, e, hM, hl, by rw [List.getElem?_set_ne (by omega)]; exact hr⟩
theorem OwnAt.grow {v : Value} {lo hi : Nat} {h h' : AHeap} (o : OwnAt v lo hi h) (g : Grew h h') : OwnAt v lo hi h' := by
  rcases o with e | ⟨b2, kk, len, M, h1, h2, e, hM, hl, hr⟩
  · exact Or.inl e
  · exact Or.inr ⟨b2, kk, len, M, h1, h2, e, hM, hl, g.at hr⟩
theorem GRes.ownAt {h h' : AHeap} {v : Value} {R : List ByteArray} (g : GRes h h' v R) (hR : R.length < 1000000) {lo : Nat} (hlo : lo ≤ h.length) : OwnAt v lo h'.length h' := by
  rcases g.2 with ⟨_, e⟩ | ⟨b, kk, L', hb, e, hr, ht⟩
  · exact Or.inl e
  · refine Or.inr ⟨b, kk, R.length, L', by omega, lt_of_get hr, e, ?_, hR, hr⟩
    have := congrArg List.length ht
    rw [List.length_take] at this; omega
theorem Acc.ownAt {h h' : AHeap} {v : Value} {R : List ByteArray} (A : Acc h h' v R) (hR : R.length < 1000000) {lo : Nat} (hlo : lo ≤ h.length) : OwnAt v lo h'.length h' := by
  rcases A.val with ⟨_, e⟩ | ⟨b, hb, e, hr⟩
  · exact Or.inl e
  · exact Or.inr ⟨b, _, R.length, R, by omega, lt_of_get hr, e, Nat.le_refl _, hR, hr⟩
theorem own_loops (hk1 : 1 ≤ k) (hk : k ≤ 3) (hn1 : 1 ≤ n) (hn : n ≤ 3) (a1 a2 : Option Addr) (k1 k2 : Nat) (L : List ByteArray) (hL : L.length < 1000) (eX : X = .slice a1 L.length k1) (eC : C = .slice a2 L.length k2)
    (hB : AHeap) (s1 : Strs hB a1 L) (s2 : Strs hB a2 L) (l0 l1 l2 l3 : Nat) (h0 : hB.length ≤ l0) (h1 : l0 ≤ l1) (h2 : l1 ≤ l2) :
    ∀ (f : Nat → Value) (h : AHeap), (Grew hB h ∧ OwnAt gv l0 l1 h ∧ OwnAt tv l1 l2 h ∧ OwnAt rv l2 l3 h) → Knows f (oSl k n X C gv tv rv ++ [(15, I (0 : Nat))]) → Fin Tryd.prog AX2 none Tryd.f11.ntmps (lpN Tryd.f11 0) .normal ⟨f, h⟩ (TrueQ Tryd.f11) := by
  have E2 : ∀ (f : Nat → Value) (h : AHeap), Grew hB h → Knows f (oSl k n X C gv tv rv) → Fin Tryd.prog AX2 none Tryd.f11.ntmps (brk (lpN Tryd.f11 2)) .normal ⟨f, h⟩ (TrueQ Tryd.f11) :=
    fun f h hG hf => own_end k n X C gv tv rv hk1 hk hn1 hn a1 a2 k1 k2 L hL eX eC f h ⟨s1.grow hG, s2.grow hG⟩ hf
  have L2 : ∀ (f : Nat → Value) (h : AHeap), (Grew hB h ∧ OwnAt rv l2 l3 h) → Knows f (oSl k n X C gv tv rv ++ [(17, I (0 : Nat))]) → Fin Tryd.prog AX2 none Tryd.f11.ntmps (lpN Tryd.f11 2) .normal ⟨f, h⟩ (TrueQ Tryd.f11) := by
    intro f h ⟨hG, orr⟩ hf
    rcases orr with e | ⟨b, kk, len, M, hb1, hb2, e, hM, hlen, hb⟩
    · exact fillN2 k n X C gv tv rv (fun h => Grew hB h) (oSl k n X C gv tv rv) rfl E2 e f h hG hf
    · exact fill2 k n X C gv tv rv b kk len hlen (fun h => Grew hB h) (fun h o g => g.set (by omega) _) (oSl k n X C gv tv rv) rfl E2 e len 0 f h M (by omega) hM hb hG hf
  have E1 : ∀ (f : Nat → Value) (h : AHeap), (Grew hB h ∧ OwnAt rv l2 l3 h) → Knows f (oSl k n X C gv tv rv) → Fin Tryd.prog AX2 none Tryd.f11.ntmps (brk (lpN Tryd.f11 1)) .normal ⟨f, h⟩ (TrueQ Tryd.f11) := by
    intro f h hI hf
    refine Fin_known _ hf ?_
    refine Run 1000 ?_
    exact Fin_goto (lpN Tryd.f11 2) h (oSl k n X C gv tv rv ++ [(17, I (0 : Nat))]) (by kernel_rfl) rfl (by kernel_rfl) (fun f' hf' => L2 f' h hI hf')
  have L1 : ∀ (f : Nat → Value) (h : AHeap), (Grew hB h ∧ OwnAt tv l1 l2 h ∧ OwnAt rv l2 l3 h) → Knows f (oSl k n X C gv tv rv ++ [(16, I (0 : Nat))]) → Fin Tryd.prog AX2 none Tryd.f11.ntmps (lpN Tryd.f11 1) .normal ⟨f, h⟩ (TrueQ Tryd.f11) := by
    intro f h ⟨hG, ot, orr⟩ hf
    rcases ot with e | ⟨b, kk, len, M, hb1, hb2, e, hM, hlen, hb⟩
    · exact fillN1 k n X C gv tv rv (fun h => Grew hB h ∧ OwnAt rv l2 l3 h) (oSl k n X C gv tv rv) rfl E1 e f h ⟨hG, orr⟩ hf
    · exact fill1 k n X C gv tv rv b kk len hlen (fun h => Grew hB h ∧ OwnAt rv l2 l3 h) (fun h o ⟨g, o2⟩ => ⟨g.set (by omega) _, o2.set (by omega) _⟩) (oSl k n X C gv tv rv) rfl E1 e len 0 f h M (by omega) hM hb ⟨hG, orr⟩ hf
  have E0 : ∀ (f : Nat → Value) (h : AHeap), (Grew hB h ∧ OwnAt tv l1 l2 h ∧ OwnAt rv l2 l3 h) → Knows f (oSl k n X C gv tv rv) → Fin Tryd.prog AX2 none Tryd.f11.ntmps (brk (lpN Tryd.f11 0)) .normal ⟨f, h⟩ (TrueQ Tryd.f11) := by
    intro f h hI hf
    refine Fin_known _ hf ?_
    refine Run 1000 ?_
    exact Fin_goto (lpN Tryd.f11 1) h (oSl k n X C gv tv rv ++ [(16, I (0 : Nat))]) (by kernel_rfl) rfl (by kernel_rfl) (fun f' hf' => L1 f' h hI hf')
  have L0 : ∀ (f : Nat → Value) (h : AHeap), (Grew hB h ∧ OwnAt gv l0 l1 h ∧ OwnAt tv l1 l2 h ∧ OwnAt rv l2 l3 h) → Knows f (oSl k n X C gv tv rv ++ [(15, I (0 : Nat))]) → Fin Tryd.prog AX2 none Tryd.f11.ntmps (lpN Tryd.f11 0) .normal ⟨f, h⟩ (TrueQ Tryd.f11) := by
    intro f h ⟨hG, og, ot, orr⟩ hf
    rcases og with e | ⟨b, kk, len, M, hb1, hb2, e, hM, hlen, hb⟩
    · exact fillN0 k n X C gv tv rv (fun h => Grew hB h ∧ OwnAt tv l1 l2 h ∧ OwnAt rv l2 l3 h) (oSl k n X C gv tv rv) rfl E0 e f h ⟨hG, ot, orr⟩ hf
    · exact fill0 k n X C gv tv rv b kk len hlen (fun h => Grew hB h ∧ OwnAt tv l1 l2 h ∧ OwnAt rv l2 l3 h) (fun h o ⟨g, o1, o2⟩ => ⟨g.set (by omega) _, o1.set (by omega) _, o2.set (by omega) _⟩) (oSl k n X C gv tv rv) rfl E0 e len 0 f h M (by omega) hM hb ⟨hG, ot, orr⟩ hf
  exact L0
end

set_option maxHeartbeats 1000000 in
/-- The law. -/
theorem own_true (k0 n0 : Int) (h : AHeap) (hz : h[0]? = some noneRow) (a : Option Addr) (kk : Nat) (S : List ByteArray) (hS : S.length ≤ 9223372036854775807) (hss : Strs h a S) (hsz : ∀ s ∈ S, s.size ≤ 9223372036854775807) :
    Ca Tryd.prog AX2 (.fn 11) [I k0, I n0, .slice a S.length kk] h (fun v _ => v = .bool true) := by
  obtain ⟨k, k1, k4, ek⟩ := norm_in 3 (by omega) (by omega) k0
  obtain ⟨n, n1, n5, en⟩ := norm_in 3 (by omega) (by omega) n0
  obtain ⟨T, eT⟩ : ∃ T, T = tameGo k n 10 S [] := ⟨_, rfl⟩
  obtain ⟨hok1, hok2, hok3⟩ := tame_ok (k := k) (n := n) (most := 10) k1 (by omega) S [] (by simp) List.Pairwise.nil (by simp)
  rw [← eT] at hok1 hok2 hok3
  have hin : inRange k n = true := inRange_iff.2 (by omega)
  obtain ⟨L, eL⟩ : ∃ L, L = freeGo T [] := ⟨_, rfl⟩
  obtain ⟨f1, f2, f3, f4⟩ := free_ok T [] hok1 (rising_nd hok2) (fun w _ => by simp) (by simp) List.Pairwise.nil rfl
  rw [← eL] at f1 f2 f3 f4
  simp only [List.length_nil] at f4
  have hcode : codeF k n L = true := code_of f1 f2 (fun q hq => by simp at hq)
  have hcopy : ownF L = L := ownF_same (by omega) (fun w h => by have := (f1 w h).1; omega)
  have gok : GrowOK k n L := ⟨f1, rising_nd f2, f3⟩
  obtain ⟨Gw, eG⟩ : ∃ Gw, Gw = growF L (wordsL k n) := ⟨_, rfl⟩
  have hfew := grow_few gok k4 n1 n5
  rw [← eG] at hfew
  obtain ⟨w, ew⟩ : ∃ w, w = gB (ownWord ⟨#[97, 98, 99]⟩ k n) := ⟨_, rfl⟩
  have hwsz : w.size = n := by rw [ew]; exact own_size _ _ _
  have hov : overF k w = true := by rw [ew]; exact own_over _ k1 (by omega) n
  have hword : isWordF w = true := over_word ⟨hwsz, hov⟩ n1 (by omega)
  have c40 := fun h => ow_spec (X := AX2) (by kernel_rfl) ⟨#[97, 98, 99]⟩ (by decide) k n k1 (by omega) n1 (by omega) h
  simp only [← ew] at c40
  have rlen : (ringsF k n).length < 1000000 := by
    have := words_len ⟨k, by omega⟩ ⟨n, by omega⟩
    rw [← ringsF_out]
    unfold ringOut
    rw [List.length_map]
    exact Nat.lt_of_le_of_lt (List.length_filter_le _ _) this
  have tlen : (sortedF (turnsTo w w.size)).length < 1000000 := by
    have h1 := compactM_length seq (sortM ltS (turnsTo w w.size))
    rw [sortM_length, turnsTo_length] at h1
    unfold sortedF; omega
  have glen : (sortedF Gw).length < 1000000 := by
    have h1 := compactM_length seq (sortM ltS Gw)
    rw [sortM_length] at h1
    unfold sortedF; omega
  have c15 := fun h => Rings_spec (X := AX2) (by kernel_rfl) (by kernel_rfl) ringX2 k n h
  simp only [hin, if_true, Int.toNat_natCast] at c15
  refine Ca_fn (fn := Tryd.f11) (c := Tryd.f11.body.getD .skip) (by kernel_rfl) (by kernel_rfl) (by kernel_rfl) (by kernel_rfl) ?_
  refine Run 1000 ?_
  refine Fin_call 23 [.slice a S.length kk, I (norm 3 k0), I (norm 3 n0), I (10 : Nat)] (by kernel_rfl) (by kernel_rfl) (by
    rw [show norm 3 k0 = k from ek, show norm 3 n0 = n from en]
    exact tame_spec (X := AX2) (by kernel_rfl) (by kernel_rfl) (by kernel_rfl) (by kernel_rfl) (by kernel_rfl) h a kk S hS hss hsz k n 10 k1 (by omega) n1 (by omega) (by omega)) (fun v2 hh2 A2 => ?_)
  rw [← eT] at A2
  have G2 := A2.grew
  obtain ⟨a2, kk2, rfl, hst2⟩ := A2.as_strs
  refine Run 1000 ?_
  refine Fin_call 29 [.slice a2 T.length kk2] (by kernel_rfl) (by kernel_rfl) (freeW_spec (X := AX2) (by kernel_rfl) (by kernel_rfl) (by kernel_rfl) hh2 a2 kk2 T n (by omega) hst2 (fun w h => (hok1 w h).1) n1 (by omega)) (fun v3 hh3 hv3 => ?_)
  rw [← eL] at hv3
  obtain ⟨⟨a3, kk3, rfl, hst3, hnil⟩, G3⟩ := hv3
  refine Run 1000 ?_
  refine Fin_call 44 [.slice a3 L.length kk3] (by kernel_rfl) (by kernel_rfl) (by
    have c := own_spec (X := AX2) (by kernel_rfl) hh3 a3 kk3 L (by omega) hst3
    rw [hcopy] at c; exact c) (fun v4 hh4 A4 => ?_)
  have G4 := A4.grew
  obtain ⟨a4, kk4, rfl, hst4⟩ := A4.as_strs
  refine Run 1000 ?_
  refine Fin_call 41 [I (norm 3 k0), I (norm 3 n0), .slice a3 L.length kk3] (by kernel_rfl) (by kernel_rfl) (by
    rw [show norm 3 k0 = k from ek, show norm 3 n0 = n from en]
    exact grow_ok growX2 k n hin hh4 a3 kk3 L (by omega) (hst3.grow G4) hnil hcode ((G2.trans (G3.trans G4)).at hz) f3 (sortedF Gw)
      (fun h b kk hb => by
        rw [← eG] at hb ⊢
        exact (sorted_small sortX2 h b kk Gw hb hfew).imp fun v h' ⟨L', kk', q1, q2, q3, _⟩ => ⟨L', kk', q1, q2, q3⟩)
      (fun e => by
        rw [← eG] at e
        refine ⟨by rw [e]; rfl, fun h => sorted_nil (X := AX2) (by kernel_rfl) (by kernel_rfl) (fun h => sort_nil sortX2 h) h⟩)) (fun v5 hh5 hv5 => ?_)
  obtain ⟨v5, rfl, g5⟩ := hv5
  have G5 := g5.1
  refine Run 1000 ?_
  refine Fin_call 40 [.string ⟨#[97, 98, 99]⟩, I (norm 3 k0), I (norm 3 n0)] (by kernel_rfl) (by kernel_rfl) (by
    rw [show norm 3 k0 = k from ek, show norm 3 n0 = n from en]; exact c40 hh5) (fun v6 hh6 hv6 => ?_)
  obtain ⟨rfl, G6⟩ := hv6
  refine Run 1000 ?_
  refine Fin_call 36 [.string w] (by kernel_rfl) (by kernel_rfl) (turnsOf_own wordX2 w (by omega) hword hh6) (fun v7 hh7 hv7 => ?_)
  obtain ⟨v7, rfl, g7⟩ := hv7
  have G7 := g7.1
  refine Run 1000 ?_
  refine Fin_call 15 [I (norm 3 k0), I (norm 3 n0)] (by kernel_rfl) (by kernel_rfl) (by
    rw [show norm 3 k0 = k from ek, show norm 3 n0 = n from en]; exact c15 hh7) (fun v8 hh8 hv8 => ?_)
  obtain ⟨v8, rfl, A8⟩ := hv8
  have G8 := A8.grew
  refine Run 1000 ?_
  refine Fin_goto (lpN Tryd.f11 0) hh8 [(0, I (norm 3 k0)), (1, I (norm 3 n0)), (7, .slice a3 L.length kk3), (8, .slice a4 L.length kk4), (9, v5), (10, I 0), (11, v7), (12, I 0), (13, v8), (14, I 0), (15, I (0 : Nat))] (by kernel_rfl) rfl (by kernel_rfl) (fun f' hf' => ?_)
  rw [show norm 3 k0 = k from ek, show norm 3 n0 = n from en] at hf'
  exact own_loops k n (.slice a3 L.length kk3) (.slice a4 L.length kk4) v5 v7 v8 k1 k4 n1 n5 a3 a4 kk3 kk4 L (by omega) rfl rfl hh4 (hst3.grow G4) hst4 hh4.length hh5.length hh7.length hh8.length (Nat.le_refl _) G5.le (G6.trans G7).le f' hh8
    ⟨G5.trans (G6.trans (G7.trans G8)), (g5.ownAt glen (Nat.le_refl _)).grow (G6.trans (G7.trans G8)), (g7.ownAt tlen G6.le).grow G8, A8.ownAt rlen (Nat.le_refl _)⟩ hf'
end Go.Proofs.YtpbmpdocgplhpaaDoor
