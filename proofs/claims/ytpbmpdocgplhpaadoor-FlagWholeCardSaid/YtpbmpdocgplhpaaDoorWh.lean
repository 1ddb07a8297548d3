/-
  'FlagWhole', walked.
-/
import Derived.Test.YtpbmpdocgplhpaaDoorWhPl
import Derived.Test.YtpbmpdocgplhpaaDoorMH
import Derived.Test.YtpbmpdocgplhpaaDoorAx2
import Derived.Test.YtpbmpdocgplhpaaDoorKnS
set_option linter.unusedSimpArgs false
set_option linter.unusedVariables false
set_option maxRecDepth 100000
namespace Go.Proofs.YtpbmpdocgplhpaaDoor
open Go Go.AM

section
variable (k n : Nat) (a : Option Addr) (kk : Nat) (L : List ByteArray) (is : Bool) (c : Int)
abbrev whSl (a : Option Addr) (kk : Nat) (L : List ByteArray) (is : Bool) (c : Int) (i : Nat) : List (Nat × Value) :=
  [(7, .slice a L.length kk), (9, .bool is), (11, I c), (14, I i)]

set_option maxHeartbeats 1000000 in
theorem wh_in (hL : L.length < 1000000) (hw : ∀ w ∈ L, isWordF w = true) (hne : is = false → ∀ i j (hi : i < L.length) (hj : j < L.length), j < i → firstF L[i] ≠ firstF L[j]) (i : Nat) (hi : i < L.length) {Q : AExit → FS → Prop} (h0 : AHeap) (hst : Strs h0 a L)
    (K : ∀ f' h' b, Grew h0 h' → (is = false → b = true) → Knows f' (whSl a kk L is c (i + 1) ++ [(13, .bool b)]) → Fin Tryd.prog AX2 none Tryd.f8.ntmps (lpN Tryd.f8 0) .normal ⟨f', h'⟩ Q) :
    ∀ (t j : Nat) (b : Bool) (f : Nat → Value) (h : AHeap), j + t = i → Grew h0 h → (is = false → b = true) → Knows f (whSl a kk L is c i ++ [(13, .bool b), (17, .string (firstF L[i])), (19, I j)]) →
    Fin Tryd.prog AX2 none Tryd.f8.ntmps (lpN Tryd.f8 1) .normal ⟨f, h⟩ Q := by
  intro t
  induction t with
  | zero =>
    intro j b f h hj hG hb hf
    obtain rfl : j = i := by omega
    refine Fin_known _ hf ?_
    refine Fin_unrl ?_
    refine Run 1000 ?_
    refine Fin_c ((j : Int) < j) (by kernel_rfl) (fun h1 => by omega) (fun h1 => ?_)
    refine Run 1000 ?_
    refine Fin_goto (lpN Tryd.f8 0) h ([(7, .slice a L.length kk), (9, .bool is), (11, I c), (14, I (IntKind.wrap .i64 ((j : Int) + 1)))] ++ [(13, .bool b)]) (by kernel_rfl) rfl (by kernel_rfl) (fun f' hf' => ?_)
    rw [wrap_next hi (by omega)] at hf'
    exact K f' h b hG hb hf'
  | succ t ih =>
    intro j b f h hj hG hb hf
    have hlt : j < L.length := by omega
    obtain ⟨w, ew⟩ : ∃ w, w = L[j] := ⟨_, rfl⟩
    have hword : isWordF w = true := by rw [ew]; exact hw _ (List.getElem_mem hlt)
    have hsz := isWord_iff.1 hword
    obtain ⟨b1, o, ea, _⟩ := hst.at hlt
    subst ea
    have hld := (hst.grow hG).load9 hlt rfl (off := o + (j : Int).toNat * 1) (by simp)
    rw [← ew] at hld
    have hfs := firstOf_spec (X := AX2) wordX2 w (by omega) h
    rw [hword, if_pos rfl] at hfs
    have hne' : is = false → seq (firstF L[i]) (firstF w) = false := by
      intro e
      have := hne e i j hi hlt (by omega)
      rw [← ew] at this
      rw [Bool.eq_false_iff]; intro h; exact this (seq_iff.1 h)
    refine Fin_known _ hf ?_
    refine Fin_unrl ?_
    refine Run 1000 ?_
    refine Fin_c ((j : Int) < i) (by kernel_rfl) (fun h1 => ?_) (fun h1 => by omega)
    refine Run 1000 ?_
    refine IdxA 22 b1 o 1 L.length kk .i64 j (by kernel_rfl) (by kernel_rfl) ti22 rfl ti9 rfl (by omega) (by omega) ?_
    refine Run 1000 ?_
    refine Load 9 (.pointer (some ⟨b1, o + (j : Int).toNat * 1, none⟩)) (.string w) (by kernel_rfl) (by kernel_rfl) hld ?_
    refine Run 1000 ?_
    refine Fin_call 35 [.string w] (by kernel_rfl) (by kernel_rfl) hfs (fun v5 hh5 hv5 => ?_)
    obtain ⟨rfl, G5⟩ := hv5
    refine Run 1000 ?_
    refine Fin_g2 b (by kernel_rfl) (by kernel_rfl) (fun hbt => ?_) (fun hbf => ?_)
    · refine RunA 1000 3 ?_
      refine Fin_goto (lpN Tryd.f8 1) hh5 ([(7, .slice (some ⟨b1, o, some 1⟩) L.length kk), (9, .bool is), (11, I c), (14, I i)] ++ [(13, .bool (!(seq (firstF L[i]) (firstF w)))), (17, .string (firstF L[i])), (19, I (IntKind.wrap .i64 ((j : Int) + 1)))]) (by kernel_rfl) rfl (by kernel_rfl) (fun f' hf' => ?_)
      rw [wrap_next hlt (by omega)] at hf'
      exact ih (j + 1) _ f' hh5 (by omega) (hG.trans G5) (fun e => by rw [hne' e]; rfl) hf'
    · refine RunA 1000 3 ?_
      refine Fin_goto (lpN Tryd.f8 1) hh5 ([(7, .slice (some ⟨b1, o, some 1⟩) L.length kk), (9, .bool is), (11, I c), (14, I i)] ++ [(13, .bool false), (17, .string (firstF L[i])), (19, I (IntKind.wrap .i64 ((j : Int) + 1)))]) (by kernel_rfl) rfl (by kernel_rfl) (fun f' hf' => ?_)
      rw [wrap_next hlt (by omega)] at hf'
      refine ih (j + 1) _ f' hh5 (by omega) (hG.trans G5) (fun e => ?_) hf'
      have := hb e; rw [hbf] at this; exact this

set_option maxHeartbeats 1000000 in
theorem wh_out (hL : L.length < 1000000) (hw : ∀ w ∈ L, isWordF w = true) (hne : is = false → ∀ i j (hi : i < L.length) (hj : j < L.length), j < i → firstF L[i] ≠ firstF L[j]) (hwh : is = false → ∀ w ∈ L, wholeF w = true) (hc : is = false → (L.length : Int) ≤ c) (h0 : AHeap) (hst : Strs h0 a L) :
    ∀ (t i : Nat) (b : Bool) (f : Nat → Value) (h : AHeap), i + t = L.length → Grew h0 h → (is = false → b = true) → Knows f (whSl a kk L is c i ++ [(13, .bool b)]) →
    Fin Tryd.prog AX2 none Tryd.f8.ntmps (lpN Tryd.f8 0) .normal ⟨f, h⟩ (TrueQ Tryd.f8) := by
  intro t
  induction t with
  | zero =>
    intro i b f h hi hG hb hf
    obtain rfl : i = L.length := by omega
    refine Fin_known _ hf ?_
    refine Fin_unrl ?_
    refine Run 1000 ?_
    refine Fin_c ((L.length : Int) < L.length) (by kernel_rfl) (fun h1 => by omega) (fun h1 => ?_)
    cases is with
    | true =>
      refine RunA 1000 10 ?_
      refine Fin_call 22 [] (by kernel_rfl) (by kernel_rfl) (awake_ca2 h) (fun v11 hh11 hv11 => ?_)
      obtain ⟨rfl, rfl⟩ := hv11
      refine RunA 1000 10 ?_
      exact Fin_r (by kernel_rfl) ⟨Or.inr rfl, .bool true, by kernel_rfl, rfl⟩
    | false =>
      obtain rfl := hb rfl
      refine RunA 1000 2 ?_
      refine Fin_gB true (by kernel_rfl) (Eq.trans (b := .bool (decide ((L.length : Int) ≤ c))) (by kernel_rfl) (by rw [decide_eq_true (hc rfl)])) ?_
      refine RunA 1000 10 ?_
      refine Fin_call 22 [] (by kernel_rfl) (by kernel_rfl) (awake_ca2 h) (fun v11 hh11 hv11 => ?_)
      obtain ⟨rfl, rfl⟩ := hv11
      refine RunA 1000 10 ?_
      exact Fin_r (by kernel_rfl) ⟨Or.inr rfl, .bool true, by kernel_rfl, rfl⟩
  | succ t ih =>
    intro i b f h hi hG hb hf
    have hlt : i < L.length := by omega
    obtain ⟨w, ew⟩ : ∃ w, w = L[i] := ⟨_, rfl⟩
    have hword : isWordF w = true := by rw [ew]; exact hw _ (List.getElem_mem hlt)
    have hsz := isWord_iff.1 hword
    obtain ⟨b1, o, ea, _⟩ := hst.at hlt
    subst ea
    have hld : ∀ {g : AHeap}, Grew h0 g → aload Tryd.prog g 9 (.pointer (some ⟨b1, o + (i : Int).toNat * 1, none⟩)) = some (.string w) := by
      intro g hg
      rw [ew]; exact (hst.grow hg).load9 hlt rfl (by simp)
    have hws := isWhole_spec (X := AX2) wordX2 w (by omega) h
    have hfs := fun h => firstOf_spec (X := AX2) wordX2 w (by omega) h
    rw [hword, if_pos rfl] at hws
    simp only [hword, if_true] at hfs
    have hww : is = false → wholeF w = true := fun e => hwh e w (by rw [ew]; exact List.getElem_mem hlt)
    refine Fin_known _ hf ?_
    refine Fin_unrl ?_
    refine Run 1000 ?_
    refine Fin_c ((i : Int) < L.length) (by kernel_rfl) (fun h1 => ?_) (fun h1 => by omega)
    refine Run 1000 ?_
    refine IdxA 22 b1 o 1 L.length kk .i64 i (by kernel_rfl) (by kernel_rfl) ti22 rfl ti9 rfl (by omega) (by omega) ?_
    refine Run 1000 ?_
    refine Load 9 (.pointer (some ⟨b1, o + (i : Int).toNat * 1, none⟩)) (.string w) (by kernel_rfl) (by kernel_rfl) (hld hG) ?_
    refine Run 1000 ?_
    refine Fin_call 34 [.string w] (by kernel_rfl) (by kernel_rfl) hws (fun v5 hh5 hv5 => ?_)
    obtain ⟨rfl, G5⟩ := hv5
    refine Run 1000 ?_
    refine IdxA 22 b1 o 1 L.length kk .i64 i (by kernel_rfl) (by kernel_rfl) ti22 rfl ti9 rfl (by omega) (by omega) ?_
    refine Run 1000 ?_
    refine Load 9 (.pointer (some ⟨b1, o + (i : Int).toNat * 1, none⟩)) (.string w) (by kernel_rfl) (by kernel_rfl) (hld (hG.trans G5)) ?_
    refine Run 1000 ?_
    refine Fin_call 35 [.string w] (by kernel_rfl) (by kernel_rfl) (hfs hh5) (fun v6 hh6 hv6 => ?_)
    obtain ⟨rfl, G6⟩ := hv6
    have hG6 := hG.trans (G5.trans G6)
    refine RunA 1000 2 ?_
    refine Fin_g2 b (by kernel_rfl) (by kernel_rfl) (fun hbt => ?_) (fun hbf => ?_)
    · refine RunA 1000 1 ?_
      refine Fin_goto (lpN Tryd.f8 1) hh6 ([(7, .slice (some ⟨b1, o, some 1⟩) L.length kk), (9, .bool is), (11, I c), (14, I i)] ++ [(13, .bool (wholeF w)), (17, .string (firstF w)), (19, I (0 : Nat))]) (by kernel_rfl) rfl (by kernel_rfl) (fun f' hf' => ?_)
      rw [ew] at hf'
      refine wh_in (some ⟨b1, o, some 1⟩) kk L is c hL hw hne i hlt h0 hst (fun f2 h2 b2 hG2 hb2 hf2 => ih (i + 1) b2 f2 h2 (by omega) hG2 hb2 hf2) i 0 _ f' hh6 (by omega) hG6 (fun e => by rw [← ew]; exact hww e) hf'
    · refine RunA 1000 1 ?_
      refine Fin_goto (lpN Tryd.f8 1) hh6 ([(7, .slice (some ⟨b1, o, some 1⟩) L.length kk), (9, .bool is), (11, I c), (14, I i)] ++ [(13, .bool false), (17, .string (firstF w)), (19, I (0 : Nat))]) (by kernel_rfl) rfl (by kernel_rfl) (fun f' hf' => ?_)
      rw [ew] at hf'
      refine wh_in (some ⟨b1, o, some 1⟩) kk L is c hL hw hne i hlt h0 hst (fun f2 h2 b2 hG2 hb2 hf2 => ih (i + 1) b2 f2 h2 (by omega) hG2 hb2 hf2) i 0 _ f' hh6 (by omega) hG6 (fun e => by have := hb e; rw [hbf] at this; exact this) hf'
end

set_option maxHeartbeats 1000000 in
/-- The law. -/
theorem wh_true (k0 n0 : Int) (h : AHeap) (hn : h[0]? = some noneRow) (a : Option Addr) (kk : Nat) (S : List ByteArray) (hS : S.length ≤ 9223372036854775807) (hst : Strs h a S) (hsz : ∀ s ∈ S, s.size ≤ 9223372036854775807) :
    Ca Tryd.prog AX2 (.fn 8) [I k0, I n0, .slice a S.length kk] h (fun v _ => v = .bool true) := by
  obtain ⟨k, k1, k4, ek⟩ := norm_in 4 (by omega) (by omega) k0
  obtain ⟨n, n1, n5, en⟩ := norm_in 5 (by omega) (by omega) n0
  obtain ⟨L, eL⟩ : ∃ L, L = tameGo k n 30 S [] := ⟨_, rfl⟩
  have hcode := tame_code (n := n) (most := 30) k1 k4 S
  obtain ⟨hok1, hok2, hok3⟩ := tame_ok (n := n) (most := 30) k1 k4 S [] (by simp) List.Pairwise.nil (by simp)
  rw [← eL] at hcode hok1 hok2 hok3
  have hin : inRange k n = true := inRange_iff.2 (by omega)
  have hg := gol_ok (k := k) (m := n) k1 (by omega) n1 (by omega)
  have hcr : (countRings k n).2 = 0 ∧ (countRings k n).1 = (ringsL k n).length := by
    unfold golOK at hg
    simp only [hin, Bool.not_true, Bool.false_or, Bool.and_eq_true, beq_iff_eq] at hg
    exact ⟨hg.2.2, hg.2.1.symm⟩
  have hword : ∀ w ∈ L, isWordF w = true := fun w hw => over_word (hok1 w hw) n1 n5
  refine Ca_fn (fn := Tryd.f8) (c := Tryd.f8.body.getD .skip) (by kernel_rfl) (by kernel_rfl) (by kernel_rfl) (by kernel_rfl) ?_
  refine Run 1000 ?_
  have c1 := kn_spec (X := AX2) (by kernel_rfl) k0 n0 h
  rw [show norm 4 k0 = k from ek, show norm 5 n0 = n from en] at c1
  refine Fin_call 21 [I k0, I n0] (by kernel_rfl) (by kernel_rfl) c1 (fun v1 hh1 hv1 => ?_)
  obtain ⟨rfl, rfl⟩ := hv1
  refine Run 1000 ?_
  refine Fin_call 23 [.slice a S.length kk, I k, I n, I (30 : Nat)] (by kernel_rfl) (by kernel_rfl) (tame_spec (by kernel_rfl) (by kernel_rfl) (by kernel_rfl) (by kernel_rfl) (by kernel_rfl) hh1 a kk S hS hst hsz k n 30 k1 k4 n1 n5 (by omega)) (fun v2 hh2 A2 => ?_)
  rw [← eL] at A2
  have G2 := A2.grew
  obtain ⟨a2, kk2, rfl, hst2⟩ := A2.as_strs
  refine Run 1000 ?_
  refine Fin_call 33 [I k, I n, .slice a2 L.length kk2] (by kernel_rfl) (by kernel_rfl) (Clash_spec (by kernel_rfl) (by kernel_rfl) (by kernel_rfl) overX2 k n hin hh2 a2 kk2 L (by omega) hst2 hcode (G2.at hn)) (fun v3 hh3 hv3 => ?_)
  obtain ⟨⟨res, rfl, hR⟩, G3⟩ := hv3
  obtain ⟨d6, hd6, _⟩ := ti56
  refine Run 1000 ?_
  refine Alloc 56 (by kernel_rfl) (by kernel_rfl) hd6 rfl ?_
  refine Run 1000 ?_
  obtain ⟨t1, t2, t3, et⟩ : ∃ t1 t2 t3 : Int, trio res = .agg #[I t1, I t2, I t3] := by
    cases res with
    | none => exact ⟨0, 0, 0, rfl⟩
    | some q => exact ⟨q.1, q.2.1, q.2.2, rfl⟩
  rw [et]
  have r7 : (hh3 ++ [AObj.row (Value.agg #[I 0, I 0, I 0]).cells.toList true])[hh3.length]? = some (.row [I 0, I 0, I 0] true) := by rw [List.getElem?_append_right (Nat.le_refl _)]; simp [Value.cells]
  refine Store 56 (.pointer (some ⟨hh3.length, 0, none⟩)) (.agg #[I t1, I t2, I t3]) _ (by kernel_rfl) (by kernel_rfl) (store56 r7) ?_
  have G4 : Grew hh3 ((hh3 ++ [AObj.row (Value.agg #[I 0, I 0, I 0]).cells.toList true]).set hh3.length (.row [I t1, I t2, I t3] true)) := Grew.set ⟨_, rfl⟩ (Nat.le_refl _) _
  refine Run 1000 ?_
  refine Fin_call 16 [I k, I n] (by kernel_rfl) (by kernel_rfl) (cr_spec (by kernel_rfl) k n _) (fun v6 hh6 hv6 => ?_)
  obtain ⟨rfl, G6⟩ := hv6
  rw [hcr.1, hcr.2]
  obtain ⟨is, eis⟩ : ∃ is, is = res.isSome := ⟨_, rfl⟩
  have hres : is = false → ClashR L none := by
    intro e
    cases res with
    | none => exact hR
    | some q => rw [eis] at e; simp at e
  rw [← eis]
  refine RunA 1000 3 ?_
  refine Fin_goto (lpN Tryd.f8 0) hh6 (whSl a2 kk2 L is (ringsL k n).length 0 ++ [(13, .bool true)]) (by kernel_rfl) rfl (by kernel_rfl) (fun f' hf' => ?_)
  exact wh_out a2 kk2 L is (ringsL k n).length (by omega) hword
    (fun e i j hi hj hji => first_ne (hres e) (List.getElem_mem hi) (List.getElem_mem hj) (hword _ (List.getElem_mem hi)) (hword _ (List.getElem_mem hj)) (by
      intro he
      have := List.pairwise_iff_getElem.1 hok2 j i hj hi hji
      rw [he, lt_irrefl] at this; simp at this))
    (fun e w hw => whole_of (hres e) hw (hword w hw))
    (fun e => by have := count_le (hres e) hok2 hok1 k4 n1 n5; omega)
    hh6 (hst2.grow (G3.trans (G4.trans G6))) L.length 0 true f' hh6 (by omega) (Grew.refl _) (fun _ => rfl) hf'
end Go.Proofs.YtpbmpdocgplhpaaDoor
