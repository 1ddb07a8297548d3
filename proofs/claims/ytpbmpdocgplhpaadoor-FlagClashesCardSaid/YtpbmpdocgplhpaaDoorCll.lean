/-
  'FlagClashes', walked.
-/
import Derived.Test.YtpbmpdocgplhpaaDoorClPl
import Derived.Test.YtpbmpdocgplhpaaDoorAx3
import Derived.Test.YtpbmpdocgplhpaaDoorKnS
set_option linter.unusedSimpArgs false
set_option linter.unusedVariables false
set_option maxRecDepth 100000
namespace Go.Proofs.YtpbmpdocgplhpaaDoor
open Go Go.AM

theorem rem_u64 (c : Int) (m : Nat) (hm : 0 < m) (hm2 : m < 1000000) : ∃ q, abin Tryd.prog .rem 33 (.int .u64 (IntKind.wrap .u64 c)) (.int .u64 (IntKind.wrap .u64 (m : Int))) = some (.int .u64 q) := by
  have e : IntKind.wrap .u64 (m : Int) = m := by simp [IntKind.wrap, IntKind.bits, IntKind.signed]; omega
  rw [e]
  refine ⟨Int.tmod (IntKind.wrap .u64 c) m, ?_⟩
  simp [abin, aint]; omega
/-- The state of the rounds: the code, the three numbers, the clash that was found. -/
structure CSt (h : AHeap) (a : Option Addr) (L : List ByteArray) (b3 b8 : Nat) (x y z d0 d1 d2 : Int) : Prop where
  strs : Strs h a L
  ne : ∀ b o s, a = some ⟨b, o, s⟩ → b ≠ b3
  n8 : b3 ≠ b8
  r3 : h[b3]? = some (.row [I x, I y, I z] true)
  r8 : h[b8]? = some (.row [I d0, I d1, I d2] true)
theorem CSt.grow {h h' : AHeap} {a : Option Addr} {L : List ByteArray} {b3 b8 : Nat} {x y z d0 d1 d2 : Int} (s : CSt h a L b3 b8 x y z d0 d1 d2) (g : Grew h h') : CSt h' a L b3 b8 x y z d0 d1 d2 :=
  ⟨s.strs.grow g, s.ne, s.n8, g.at s.r3, g.at s.r8⟩
theorem CSt.set {h : AHeap} {a : Option Addr} {L : List ByteArray} {b3 b8 : Nat} {x y z d0 d1 d2 : Int} (s : CSt h a L b3 b8 x y z d0 d1 d2) (x' y' z' : Int) : CSt (h.set b3 (.row [I x', I y', I z'] true)) a L b3 b8 x' y' z' d0 d1 d2 := by
  refine ⟨⟨s.strs.1, fun i hi => ?_⟩, s.ne, s.n8, List.getElem?_set_self (lt_of_get s.r3), by rw [List.getElem?_set_ne s.n8]; exact s.r8⟩
  obtain ⟨b, o, cs, own, e, hb, hc⟩ := s.strs.2 i hi
  exact ⟨b, o, cs, own, e, by rw [List.getElem?_set_ne (fun e2 => s.ne b o _ e e2.symm)]; exact hb, hc⟩

section
variable (k n : Nat) (a : Option Addr) (kk : Nat) (L : List ByteArray) (b3 b8 : Nat) (is : Bool) (d0 d1 d2 : Int) (r : Nat)
abbrev cSl (k n : Nat) (a : Option Addr) (kk : Nat) (L : List ByteArray) (b3 b8 : Nat) (is : Bool) (r : Nat) : List (Nat × Value) :=
  [(3, .pointer (some ⟨b3, 0, none⟩)), (5, I k), (6, I n), (7, .slice a L.length kk), (8, .pointer (some ⟨b8, 0, none⟩)), (9, .bool is), (11, I r)]

theorem cl_exit (hr : r < 3) {Q : AExit → FS → Prop}
    (K : ∀ f' h' x' y' z', CSt h' a L b3 b8 x' y' z' d0 d1 d2 → Knows f' (cSl k n a kk L b3 b8 is (r + 1)) → Fin Tryd.prog AX3 none Tryd.f12.ntmps (lpN Tryd.f12 0) .normal ⟨f', h'⟩ Q) :
    ∀ (f : Nat → Value) (h : AHeap) (x y z : Int), CSt h a L b3 b8 x y z d0 d1 d2 → Knows f (cSl k n a kk L b3 b8 is r) → Fin Tryd.prog AX3 none Tryd.f12.ntmps (brk (lpN Tryd.f12 1)) .normal ⟨f, h⟩ Q := by
  intro f h x y z S hf
  have hnext : IntKind.wrap .i64 ((r : Int) + 1) = ((r + 1 : Nat) : Int) := wrap_next hr (by omega)
  refine Fin_known _ hf ?_
  refine Run 1000 ?_
  cases hq : ((r : Int) == 1) with
  | false =>
    refine Fin_gB false (by kernel_rfl) (Eq.trans (b := .bool ((r : Int) == 1)) (by kernel_rfl) (by rw [hq])) ?_
    refine RunA 1000 1 ?_
    refine Fin_goto (lpN Tryd.f12 0) h [(3, .pointer (some ⟨b3, 0, none⟩)), (5, I k), (6, I n), (7, .slice a L.length kk), (8, .pointer (some ⟨b8, 0, none⟩)), (9, .bool is), (11, I (IntKind.wrap .i64 ((r : Int) + 1)))] (by kernel_rfl) rfl (by kernel_rfl) (fun f' hf' => ?_)
    rw [hnext] at hf'
    exact K f' h x y z S hf'
  | true =>
    refine Fin_gB true (by kernel_rfl) (Eq.trans (b := .bool ((r : Int) == 1)) (by kernel_rfl) (by rw [hq])) ?_
    cases is with
    | false =>
      refine RunA 1000 1 ?_
      refine Fin_goto (lpN Tryd.f12 0) h [(3, .pointer (some ⟨b3, 0, none⟩)), (5, I k), (6, I n), (7, .slice a L.length kk), (8, .pointer (some ⟨b8, 0, none⟩)), (9, .bool false), (11, I (IntKind.wrap .i64 ((r : Int) + 1)))] (by kernel_rfl) rfl (by kernel_rfl) (fun f' hf' => ?_)
      rw [hnext] at hf'
      exact K f' h x y z S hf'
    | true =>
      refine RunA 1000 1 ?_
      refine Load 56 (.pointer (some ⟨b8, 0, none⟩)) (.agg #[I d0, I d1, I d2]) (by kernel_rfl) (by kernel_rfl) (load56 S.r8) ?_
      refine Run 1000 ?_
      refine Store 56 (.pointer (some ⟨b3, 0, none⟩)) (.agg #[I d0, I d1, I d2]) _ (by kernel_rfl) (by kernel_rfl) (store56 S.r3) ?_
      refine Run 1000 ?_
      refine Fin_goto (lpN Tryd.f12 0) (h.set b3 (.row [I d0, I d1, I d2] true)) [(3, .pointer (some ⟨b3, 0, none⟩)), (5, I k), (6, I n), (7, .slice a L.length kk), (8, .pointer (some ⟨b8, 0, none⟩)), (9, .bool true), (11, I (IntKind.wrap .i64 ((r : Int) + 1)))] (by kernel_rfl) rfl (by kernel_rfl) (fun f' hf' => ?_)
      rw [hnext] at hf'
      exact K f' _ d0 d1 d2 (S.set d0 d1 d2) hf'

theorem cl_mod (hr : r < 3) (hL : L.length < 1000000) {Q : AExit → FS → Prop}
    (K : ∀ f' h' x' y' z', CSt h' a L b3 b8 x' y' z' d0 d1 d2 → Knows f' (cSl k n a kk L b3 b8 is (r + 1)) → Fin Tryd.prog AX3 none Tryd.f12.ntmps (lpN Tryd.f12 0) .normal ⟨f', h'⟩ Q) :
    ∀ (t i : Nat) (f : Nat → Value) (h : AHeap) (x y z : Int), i + t = 3 → CSt h a L b3 b8 x y z d0 d1 d2 → Knows f (cSl k n a kk L b3 b8 is r ++ [(14, I i)]) → Fin Tryd.prog AX3 none Tryd.f12.ntmps (lpN Tryd.f12 1) .normal ⟨f, h⟩ Q := by
  intro t
  induction t with
  | zero =>
    intro i f h x y z hi S hf
    refine Fin_known _ hf ?_
    refine Fin_unrl ?_
    refine Run 1000 ?_
    refine Fin_g ((i : Int) < 3) (by kernel_rfl) (by kernel_rfl) (fun h1 => by omega) (fun h1 => ?_)
    refine Run 1000 ?_
    refine Fin_cB false (by kernel_rfl) ?_
    refine Esc (brk (lpN Tryd.f12 1)) h (cSl k n a kk L b3 b8 is r) (by kernel_rfl) rfl (by kernel_rfl) (fun f' hf' => ?_)
    exact cl_exit k n a kk L b3 b8 is d0 d1 d2 r hr K f' h x y z S hf'
  | succ t ih =>
    intro i f h x y z hi S hf
    refine Fin_known _ hf ?_
    refine Fin_unrl ?_
    refine Run 1000 ?_
    refine Fin_g ((i : Int) < 3) (by kernel_rfl) (by kernel_rfl) (fun h1 => ?_) (fun h1 => by omega)
    refine Run 1000 ?_
    refine Fin_c ((L.length : Int) > 0) (by kernel_rfl) (fun h2 => ?_) (fun h2 => ?_)
    · obtain ⟨q, hq⟩ := rem_u64 (el3 x y z i) L.length (by omega) hL
      refine Run 1000 ?_
      refine IdxP 56 b3 0 3 .i64 i (by kernel_rfl) (by kernel_rfl) u56 rfl ti3 rfl (by omega) (by omega) ?_
      refine Run 1000 ?_
      refine Load 3 (.pointer (some ⟨b3, 0 + (i : Int).toNat * 1, none⟩)) (I (el3 x y z i)) (by kernel_rfl) (by kernel_rfl) (ld56 S.r3 i (by omega)) ?_
      refine Run 1000 ?_
      refine Bin .rem 33 (.int .u64 (IntKind.wrap .u64 (el3 x y z i))) (.int .u64 (IntKind.wrap .u64 (L.length : Int))) (.int .u64 q) (by kernel_rfl) (by kernel_rfl) hq ?_
      refine Run 1000 ?_
      refine IdxP 56 b3 0 3 .i64 i (by kernel_rfl) (by kernel_rfl) u56 rfl ti3 rfl (by omega) (by omega) ?_
      refine Run 1000 ?_
      obtain ⟨h', x', y', z', e', S'⟩ : ∃ h' x' y' z', astore Tryd.prog h 3 (.pointer (some ⟨b3, 0 + (i : Int).toNat * 1, none⟩)) (I (IntKind.wrap .i64 q)) = some h' ∧ CSt h' a L b3 b8 x' y' z' d0 d1 d2 := by
        have e := store_row (o := 0 + (i : Int).toNat * 1) (v := I (IntKind.wrap .i64 q)) ti3 rfl rfl rfl rfl S.r3 (by simp; omega)
        match i, h1, e with
        | 0, _, e => exact ⟨_, IntKind.wrap .i64 q, y, z, e, S.set _ _ _⟩
        | 1, _, e => exact ⟨_, x, IntKind.wrap .i64 q, z, e, S.set _ _ _⟩
        | 2, _, e => exact ⟨_, x, y, IntKind.wrap .i64 q, e, S.set _ _ _⟩
      refine Store 3 (.pointer (some ⟨b3, 0 + (i : Int).toNat * 1, none⟩)) (I (IntKind.wrap .i64 q)) h' (by kernel_rfl) (by kernel_rfl) e' ?_
      refine Run 1000 ?_
      refine Fin_goto (lpN Tryd.f12 1) h' ([(3, .pointer (some ⟨b3, 0, none⟩)), (5, I k), (6, I n), (7, .slice a L.length kk), (8, .pointer (some ⟨b8, 0, none⟩)), (9, .bool is), (11, I r)] ++ [(14, I (IntKind.wrap .i64 ((i : Int) + 1)))]) (by kernel_rfl) rfl (by kernel_rfl) (fun f' hf' => ?_)
      rw [wrap_next (n := 3) (by omega) (by omega)] at hf'
      exact ih (i + 1) f' h' x' y' z' (by omega) S' hf'
    · refine Esc (brk (lpN Tryd.f12 1)) h (cSl k n a kk L b3 b8 is r) (by kernel_rfl) rfl (by kernel_rfl) (fun f' hf' => ?_)
      exact cl_exit k n a kk L b3 b8 is d0 d1 d2 r hr K f' h x y z S hf'

theorem cl_round (hin : inRange k n = true) (hr : r < 3) (hL : L.length < 1000000) (hc : codeF k n L = true) (hw : ∀ w ∈ L, w.size = n) {Q : AExit → FS → Prop}
    (K : ∀ f' h' x' y' z', CSt h' a L b3 b8 x' y' z' d0 d1 d2 → Knows f' (cSl k n a kk L b3 b8 is (r + 1)) → Fin Tryd.prog AX3 none Tryd.f12.ntmps (lpN Tryd.f12 0) .normal ⟨f', h'⟩ Q) :
    ∀ (f : Nat → Value) (h : AHeap) (x y z : Int), CSt h a L b3 b8 x y z d0 d1 d2 → Knows f (cSl k n a kk L b3 b8 is r) → Fin Tryd.prog AX3 none Tryd.f12.ntmps (lpN Tryd.f12 0) .normal ⟨f, h⟩ Q := by
  intro f h x y z S hf
  obtain ⟨k1, k4, n1, n5⟩ := inRange_iff.1 hin
  obtain ⟨c, ec⟩ : ∃ c, c = isClF L x y z := ⟨_, rfl⟩
  have c46 := IsClash_spec (X := AX3) (by kernel_rfl) (by kernel_rfl) (by kernel_rfl) overX3 k n hin h a kk L hL S.strs hc x y z
  have c45 := fun h s => ris_spec (X := AX3) (by kernel_rfl) (by kernel_rfl) h a kk L n hL s hw (by omega) x y z
  rw [← ec] at c46
  simp only [← ec] at c45
  refine Fin_known _ hf ?_
  refine Fin_unrl ?_
  refine Run 1000 ?_
  refine Fin_c ((r : Int) < 3) (by kernel_rfl) (fun h1 => ?_) (fun h1 => by omega)
  refine Run 1000 ?_
  refine Load 56 (.pointer (some ⟨b3, 0, none⟩)) (.agg #[I x, I y, I z]) (by kernel_rfl) (by kernel_rfl) (load56 S.r3) ?_
  refine Run 1000 ?_
  refine Fin_call 46 [I k, I n, .slice a L.length kk, .agg #[I x, I y, I z]] (by kernel_rfl) (by kernel_rfl) c46 (fun v3 hh3 hv3 => ?_)
  obtain ⟨rfl, G3⟩ := hv3
  have S3 := S.grow G3
  refine RunA 1000 1 ?_
  refine Load 56 (.pointer (some ⟨b3, 0, none⟩)) (.agg #[I x, I y, I z]) (by kernel_rfl) (by kernel_rfl) (load56 S3.r3) ?_
  refine Run 1000 ?_
  refine Fin_call 45 [.slice a L.length kk, .agg #[I x, I y, I z]] (by kernel_rfl) (by kernel_rfl) (c45 hh3 S3.strs) (fun v7 hh7 hv7 => ?_)
  obtain ⟨rfl, G7⟩ := hv7
  have S7 := S3.grow G7
  refine Run 1000 ?_
  refine Fin_cB false (Eq.trans (b := .bool (c != c)) (by kernel_rfl) (by simp)) ?_
  refine Run 1000 ?_
  refine Fin_goto (lpN Tryd.f12 1) hh7 (cSl k n a kk L b3 b8 is r ++ [(14, I (0 : Nat))]) (by kernel_rfl) rfl (by kernel_rfl) (fun f' hf' => ?_)
  exact cl_mod k n a kk L b3 b8 is d0 d1 d2 r hr hL K 3 0 f' hh7 x y z (by omega) S7 hf'
theorem cl_rounds (hin : inRange k n = true) (hL : L.length < 1000000) (hc : codeF k n L = true) (hw : ∀ w ∈ L, w.size = n) :
    ∀ (f : Nat → Value) (h : AHeap) (x y z : Int), CSt h a L b3 b8 x y z d0 d1 d2 → Knows f (cSl k n a kk L b3 b8 is 0) → Fin Tryd.prog AX3 none Tryd.f12.ntmps (lpN Tryd.f12 0) .normal ⟨f, h⟩ (TrueQ Tryd.f12) := by
  refine cl_round k n a kk L b3 b8 is d0 d1 d2 0 hin (by omega) hL hc hw (fun f1 h1 x1 y1 z1 S1 hf1 => ?_)
  refine cl_round k n a kk L b3 b8 is d0 d1 d2 1 hin (by omega) hL hc hw (fun f2 h2 x2 y2 z2 S2 hf2 => ?_) f1 h1 x1 y1 z1 S1 hf1
  refine cl_round k n a kk L b3 b8 is d0 d1 d2 2 hin (by omega) hL hc hw (fun f3 h3 x3 y3 z3 S3 hf3 => ?_) f2 h2 x2 y2 z2 S2 hf2
  refine Fin_known _ hf3 ?_
  refine Fin_unrl ?_
  refine RunA 1000 5 ?_
  refine Fin_call 22 [] (by kernel_rfl) (by kernel_rfl) (awake_ca3 h3) (fun v11 hh11 hv11 => ?_)
  obtain ⟨rfl, rfl⟩ := hv11
  refine RunA 1000 10 ?_
  exact Fin_r (by kernel_rfl) ⟨Or.inr rfl, .bool true, by kernel_rfl, rfl⟩
end

set_option maxHeartbeats 1000000 in
/-- The law. -/
theorem cl_true (k0 n0 x y z : Int) (h : AHeap) (a : Option Addr) (kk : Nat) (S : List ByteArray) (hz : h[0]? = some noneRow) (hS : S.length ≤ 9223372036854775807) (hss : Strs h a S) (hsz : ∀ s ∈ S, s.size ≤ 9223372036854775807) :
    Ca Tryd.prog AX3 (.fn 12) [.agg #[I k0, I n0, .slice a S.length kk], .agg #[I x, I y, I z]] h (fun v _ => v = .bool true) := by
  obtain ⟨k, k1, k4, ek⟩ := norm_in 4 (by omega) (by omega) k0
  obtain ⟨n, n1, n5, en⟩ := norm_in 5 (by omega) (by omega) n0
  obtain ⟨L, eL⟩ : ∃ L, L = tameGo k n 40 S [] := ⟨_, rfl⟩
  have hcode := tame_code (n := n) (most := 40) k1 k4 S
  obtain ⟨hok1, hok2, hok3⟩ := tame_ok (n := n) (most := 40) k1 k4 S [] (by simp) List.Pairwise.nil (by simp)
  rw [← eL] at hcode hok1 hok2 hok3
  have hin : inRange k n = true := inRange_iff.2 (by omega)
  have hw : ∀ w ∈ L, w.size = n := fun w h => (hok1 w h).1
  obtain ⟨d6, hd6, _⟩ := ti56
  refine Ca_fn (fn := Tryd.f12) (c := Tryd.f12.body.getD .skip) (by kernel_rfl) (by kernel_rfl) (by kernel_rfl) (by kernel_rfl) ?_
  refine Run 1000 ?_
  refine Box (.agg #[I k0, I n0, .slice a S.length kk]) (by kernel_rfl) (by kernel_rfl) rfl ?_
  have hrow : (h ++ [AObj.row (Value.agg #[I k0, I n0, .slice a S.length kk]).cells.toList true])[h.length]? = some (.row [I k0, I n0, .slice a S.length kk] true) := by rw [List.getElem?_append_right (Nat.le_refl _)]; simp [Value.cells]
  have G0 : Grew h (h ++ [AObj.row (Value.agg #[I k0, I n0, .slice a S.length kk]).cells.toList true]) := ⟨_, rfl⟩
  obtain ⟨h1, e1⟩ : ∃ h1, h1 = h ++ [AObj.row (Value.agg #[I k0, I n0, .slice a S.length kk]).cells.toList true] := ⟨_, rfl⟩
  rw [← e1] at hrow G0 ⊢
  refine Run 1000 ?_
  refine Box (.agg #[I x, I y, I z]) (by kernel_rfl) (by kernel_rfl) rfl ?_
  have hrow2 : (h1 ++ [AObj.row (Value.agg #[I x, I y, I z]).cells.toList true])[h1.length]? = some (.row [I x, I y, I z] true) := by rw [List.getElem?_append_right (Nat.le_refl _)]; simp [Value.cells]
  have G1 : Grew h1 (h1 ++ [AObj.row (Value.agg #[I x, I y, I z]).cells.toList true]) := ⟨_, rfl⟩
  have l2 : h1.length < (h1 ++ [AObj.row (Value.agg #[I x, I y, I z]).cells.toList true]).length := by simp
  obtain ⟨h2, e2⟩ : ∃ h2, h2 = h1 ++ [AObj.row (Value.agg #[I x, I y, I z]).cells.toList true] := ⟨_, rfl⟩
  rw [← e2] at hrow2 G1 l2 ⊢
  have hrow := G1.at hrow
  refine Run 1000 ?_
  refine PureV (.pointer (some ⟨h.length, 0 + 0, none⟩)) (by kernel_rfl) (by kernel_rfl) (by kernel_rfl) ?_
  refine Run 1000 ?_
  refine Load 3 (.pointer (some ⟨h.length, 0 + 0, none⟩)) (I k0) (by kernel_rfl) (by kernel_rfl) (load_row ti3 rfl hrow rfl) ?_
  refine Run 1000 ?_
  refine PureV (.pointer (some ⟨h.length, 0 + 1, none⟩)) (by kernel_rfl) (by kernel_rfl) (by kernel_rfl) ?_
  refine Run 1000 ?_
  refine Load 3 (.pointer (some ⟨h.length, 0 + 1, none⟩)) (I n0) (by kernel_rfl) (by kernel_rfl) (load_row ti3 rfl hrow rfl) ?_
  refine Run 1000 ?_
  have c1 := fun h => kn_spec (X := AX3) (by kernel_rfl) k0 n0 h
  simp only [show norm 4 k0 = k from ek, show norm 5 n0 = n from en] at c1
  refine Fin_call 21 [I k0, I n0] (by kernel_rfl) (by kernel_rfl) (c1 _) (fun v1 hh1 hv1 => ?_)
  obtain ⟨rfl, rfl⟩ := hv1
  refine Run 1000 ?_
  refine PureV (.pointer (some ⟨h.length, 0 + 2, none⟩)) (by kernel_rfl) (by kernel_rfl) (by kernel_rfl) ?_
  refine Run 1000 ?_
  refine Load 22 (.pointer (some ⟨h.length, 0 + 2, none⟩)) (.slice a S.length kk) (by kernel_rfl) (by kernel_rfl) (load_row ti22 rfl hrow rfl) ?_
  refine Run 1000 ?_
  refine Fin_call 23 [.slice a S.length kk, I k, I n, I (40 : Nat)] (by kernel_rfl) (by kernel_rfl) (tame_spec (by kernel_rfl) (by kernel_rfl) (by kernel_rfl) (by kernel_rfl) (by kernel_rfl) _ a kk S hS (hss.grow (G0.trans G1)) hsz k n 40 k1 k4 n1 n5 (by omega)) (fun v2 hh2 A2 => ?_)
  rw [← eL] at A2
  have G2 := A2.grew
  have hval := A2.val
  obtain ⟨a2, kk2, rfl, hst2⟩ := A2.as_strs
  have hne : ∀ b o s, a2 = some ⟨b, o, s⟩ → hh1.length ≤ b := by
    intro b o s e
    rcases hval with ⟨_, e2⟩ | ⟨b2, hb2, e2, _⟩
    · simp only [Value.slice.injEq] at e2
      rw [e2.1] at e; simp at e
    · simp only [Value.slice.injEq] at e2
      rw [e2.1] at e
      simp only [Option.some.injEq, Addr.mk.injEq] at e
      omega
  have z2 : hh2[0]? = some noneRow := (G0.trans (G1.trans G2)).at hz
  refine Run 1000 ?_
  refine Fin_call 33 [I k, I n, .slice a2 L.length kk2] (by kernel_rfl) (by kernel_rfl) (Clash_spec (X := AX3) (by kernel_rfl) (by kernel_rfl) (by kernel_rfl) overX3 k n hin hh2 a2 kk2 L (by omega) hst2 hcode z2) (fun v3 hh3 hv3 => ?_)
  obtain ⟨⟨res, rfl, hR⟩, G3⟩ := hv3
  have hfree := trio_facts hw res hR
  refine Run 1000 ?_
  refine Alloc 56 (by kernel_rfl) (by kernel_rfl) hd6 rfl ?_
  have G4 : Grew hh3 (hh3 ++ [AObj.row (Value.agg #[I 0, I 0, I 0]).cells.toList true]) := ⟨_, rfl⟩
  have r4 : (hh3 ++ [AObj.row (Value.agg #[I 0, I 0, I 0]).cells.toList true])[hh3.length]? = some (.row [I 0, I 0, I 0] true) := by rw [List.getElem?_append_right (Nat.le_refl _)]; simp [Value.cells]
  obtain ⟨h4, e4⟩ : ∃ h4, h4 = hh3 ++ [AObj.row (Value.agg #[I 0, I 0, I 0]).cells.toList true] := ⟨_, rfl⟩
  rw [← e4] at r4 G4 ⊢
  have G24 := G2.trans (G3.trans G4)
  have hlt8 : h1.length < hh3.length := Nat.lt_of_lt_of_le l2 (G2.trans G3).le
  have mk : ∃ H5 : Int → Int → Int → AHeap, ∀ d0 d1 d2 : Int, astore Tryd.prog h4 56 (.pointer (some ⟨hh3.length, 0, none⟩)) (.agg #[I d0, I d1, I d2]) = some (H5 d0 d1 d2) ∧ CSt (H5 d0 d1 d2) a2 L h1.length hh3.length x y z d0 d1 d2 := by
    refine ⟨fun d0 d1 d2 => h4.set hh3.length (.row [I d0, I d1, I d2] true), fun d0 d1 d2 => ?_⟩
    refine ⟨store56 r4, ⟨hst2.1, fun i hi => ?_⟩, fun b o s e => ?_, by omega, by rw [List.getElem?_set_ne (by omega)]; exact G24.at hrow2, List.getElem?_set_self (lt_of_get r4)⟩
    · obtain ⟨b, o, cs, own, e, hb, hc⟩ := hst2.2 i hi
      have := lt_of_get hb
      have hle := G3.le
      exact ⟨b, o, cs, own, e, by rw [List.getElem?_set_ne (by omega)]; exact (G3.trans G4).at hb, hc⟩
    · have := hne b o s e; omega
  obtain ⟨H5, hH5⟩ := mk
  have c32 := fun h st => free_spec (X := AX3) h a2 kk2 L n (by kernel_rfl) (by omega) st hw n1 (by omega)
  cases res with
  | none =>
    have S5 := (hH5 0 0 0).2
    have c32 := c32 _ S5.strs
    rw [show freeF L = true from hfree] at c32
    refine Run 1000 ?_
    refine Store 56 (.pointer (some ⟨hh3.length, 0, none⟩)) (.agg #[I 0, I 0, I 0]) (H5 0 0 0) (by kernel_rfl) (by kernel_rfl) (hH5 0 0 0).1 ?_
    refine RunA 1000 1 ?_
    refine Fin_call 32 [.slice a2 L.length kk2] (by kernel_rfl) (by kernel_rfl) c32 (fun v5 hh5 hv5 => ?_)
    obtain ⟨rfl, rfl⟩ := hv5
    refine RunA 1000 10 ?_
    refine Load 56 (.pointer (some ⟨hh3.length, 0, none⟩)) (.agg #[I 0, I 0, I 0]) (by kernel_rfl) (by kernel_rfl) (load56 S5.r8) ?_
    refine Run 1000 ?_
    refine PureV (.agg #[I 0, I 0, I 0]) (by kernel_rfl) (by kernel_rfl) (by kernel_rfl) ?_
    refine Run 1000 ?_
    refine Bin .neq 56 (.agg #[I 0, I 0, I 0]) (.agg #[I 0, I 0, I 0]) (.bool false) (by kernel_rfl) (by kernel_rfl) (by kernel_rfl) ?_
    refine RunA 1000 10 ?_
    refine Fin_goto (lpN Tryd.f12 0) (H5 0 0 0) (cSl k n a2 kk2 L h1.length hh3.length false 0) (by kernel_rfl) rfl (by kernel_rfl) (fun f' hf' => ?_)
    exact cl_rounds k n a2 kk2 L h1.length hh3.length false 0 0 0 hin (by omega) hcode hw f' (H5 0 0 0) x y z S5 hf'
  | some t =>
    obtain ⟨i, j, w⟩ := t
    have hcl := (clR_some hw hR).2
    have S5 := (hH5 i j w).2
    have c32 := c32 _ S5.strs
    rw [show freeF L = false from hfree] at c32
    have c45 := ris_spec (X := AX3) (by kernel_rfl) (by kernel_rfl) (H5 i j w) a2 kk2 L n (by omega) S5.strs hw (by omega) i j w
    rw [hcl] at c45
    refine Run 1000 ?_
    refine Store 56 (.pointer (some ⟨hh3.length, 0, none⟩)) (.agg #[I i, I j, I w]) (H5 i j w) (by kernel_rfl) (by kernel_rfl) (hH5 i j w).1 ?_
    refine RunA 1000 1 ?_
    refine Fin_call 32 [.slice a2 L.length kk2] (by kernel_rfl) (by kernel_rfl) c32 (fun v5 hh5 hv5 => ?_)
    obtain ⟨rfl, rfl⟩ := hv5
    refine RunA 1000 10 ?_
    refine Load 56 (.pointer (some ⟨hh3.length, 0, none⟩)) (.agg #[I i, I j, I w]) (by kernel_rfl) (by kernel_rfl) (load56 S5.r8) ?_
    refine Run 1000 ?_
    refine Fin_call 45 [.slice a2 L.length kk2, .agg #[I i, I j, I w]] (by kernel_rfl) (by kernel_rfl) c45 (fun v6 hh6 hv6 => ?_)
    obtain ⟨rfl, G6⟩ := hv6
    refine RunA 1000 10 ?_
    refine Fin_goto (lpN Tryd.f12 0) hh6 (cSl k n a2 kk2 L h1.length hh3.length true 0) (by kernel_rfl) rfl (by kernel_rfl) (fun f' hf' => ?_)
    exact cl_rounds k n a2 kk2 L h1.length hh3.length true i j w hin (by omega) hcode hw f' hh6 x y z (S5.grow G6) hf'
end Go.Proofs.YtpbmpdocgplhpaaDoor
