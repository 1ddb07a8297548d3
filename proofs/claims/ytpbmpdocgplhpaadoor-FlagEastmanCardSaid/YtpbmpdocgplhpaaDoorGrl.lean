/-
  'FlagGrows', walked.
-/
import Derived.Test.YtpbmpdocgplhpaaDoorGrow
import Derived.Test.YtpbmpdocgplhpaaDoorSrtPl
import Derived.Test.YtpbmpdocgplhpaaDoorSortNil
import Derived.Test.YtpbmpdocgplhpaaDoorFreeW
import Derived.Test.YtpbmpdocgplhpaaDoorFull
import Derived.Test.YtpbmpdocgplhpaaDoorCode
import Derived.Test.YtpbmpdocgplhpaaDoorMH
import Derived.Test.YtpbmpdocgplhpaaDoorAx2
set_option linter.unusedSimpArgs false
set_option linter.unusedVariables false
set_option maxRecDepth 100000
namespace Go.Proofs.YtpbmpdocgplhpaaDoor
open Go Go.AM

def AX4 : Ext := fun f => bif Nat.beq f 22 then some awakeC else bif Nat.beq f 99 then some decC else bif Nat.beq f 78 then some sortC else none
theorem overX4 : OverX AX4 := ⟨by kernel_rfl, by kernel_rfl, by kernel_rfl, by kernel_rfl⟩
theorem awake_ca4 (h : AHeap) : Ca Tryd.prog AX4 (.fn 22) [] h (fun v h' => v = .bool true ∧ h' = h) :=
  Ca_ext (c := awakeC) (by kernel_rfl) rfl ⟨rfl, rfl⟩
theorem awakeC_kp {args : List Value} {h h' : AHeap} {v : Value} (hr : awakeC args h = some (v, h')) : Kp h h' := by
  cases args with
  | nil => simp only [awakeC, Option.some.injEq, Prod.mk.injEq] at hr; rw [← hr.2]; exact Kp.refl _
  | cons a l => simp [awakeC] at hr
theorem decC_kp {args : List Value} {h h' : AHeap} {v : Value} (hr : decC args h = some (v, h')) : Kp h h' := by
  unfold decC at hr
  split at hr
  · split at hr
    · simp only [Option.some.injEq, Prod.mk.injEq] at hr; rw [← hr.2]; exact Kp.refl _
    · simp at hr
  · simp at hr
theorem kp4 : ExtKp AX4 := by
  intro f c hc args h v h' hr
  unfold AX4 at hc
  cases hf : Nat.beq f 22 with
  | true =>
    rw [hf] at hc
    simp only [cond_true, Option.some.injEq] at hc
    subst hc
    exact awakeC_kp hr
  | false =>
    rw [hf] at hc
    cases hf9 : Nat.beq f 99 with
    | true =>
      rw [hf9] at hc
      simp only [cond_false, cond_true, Option.some.injEq] at hc
      subst hc
      exact decC_kp hr
    | false =>
      rw [hf9] at hc
      cases hf7 : Nat.beq f 78 with
      | false => rw [hf7] at hc; simp at hc
      | true =>
        rw [hf7] at hc
        simp only [cond_false, cond_true, Option.some.injEq] at hc
        subst hc
        exact sortC_kp hr
theorem growX4 : GrowXX AX4 := ⟨⟨kp4, by kernel_rfl, by kernel_rfl, by kernel_rfl, by kernel_rfl⟩, overX4, by kernel_rfl, by kernel_rfl, by kernel_rfl, by kernel_rfl, by kernel_rfl, by kernel_rfl⟩

/-- 'sorted', over the library's sort. -/
theorem sorted_c {X : Ext} (h78 : X 78 = some sortC) (h64 : X 64 = none) (h79 : X 79 = none) (h : AHeap) (b kk : Nat) (G : List ByteArray) (hb : h[b]? = some (.row (strs G) true)) (hN : G.length < 1000000) :
    Ca Tryd.prog X (.fn 64) [.slice (some ⟨b, 0, some 1⟩) G.length kk] h (fun v h' => ∃ L' kk', v = .slice (some ⟨b, 0, some 1⟩) (compactM seq (sortB G)).length kk' ∧ h' = h.set b (.row (strs L') true) ∧ L'.take (compactM seq (sortB G)).length = compactM seq (sortB G)) := by
  have hlt : b < h.length := lt_of_get hb
  have c78 : Ca Tryd.prog X (.fn 78) [.slice (some ⟨b, 0, some 1⟩) G.length kk] h (fun v h' => h' = h.set b (.row (strs (sortB G)) true)) := by
    refine Ca_ext (c := sortC) h78 (v := .tuple #[]) (h' := h.set b (.row (strs (sortB G)) true)) ?_ rfl
    simp only [sortC, hb, strsOf_strs]
    rw [if_pos ⟨trivial, hN⟩]
  have hc := compact_spec h79 (h.set b (.row (strs (sortB G)) true)) b kk (sortB G) (by simp [hlt]) (by rw [sortB_length]; exact hN)
  rw [sortB_length] at hc
  refine Ca_fn (fn := Tryd.f64) (c := Tryd.f64.body.getD .skip) h64 (by kernel_rfl) (by kernel_rfl) (by kernel_rfl) ?_
  refine Run 1000 ?_
  refine Fin_call 78 [.slice (some ⟨b, 0, some 1⟩) G.length kk] (by kernel_rfl) (by kernel_rfl) c78 (fun v1 hh1 hv1 => ?_)
  subst hv1
  refine Run 1000 ?_
  refine Fin_call 79 [.slice (some ⟨b, 0, some 1⟩) G.length kk] (by kernel_rfl) (by kernel_rfl) hc (fun v2 hh2 hv2 => ?_)
  obtain ⟨L', kk', rfl, rfl, h3, h4⟩ := hv2
  refine Run 1000 ?_
  refine Fin_r (by kernel_rfl) ⟨Or.inr rfl, .slice (some ⟨b, 0, some 1⟩) (compactM seq (sortB G)).length kk', by kernel_rfl, L', kk', rfl, ?_, h3⟩
  rw [List.set_set]
theorem sort_c_nil {X : Ext} (h78 : X 78 = some sortC) (h : AHeap) : Ca Tryd.prog X (.fn 78) [.slice none 0 0] h (fun v h' => h' = h) :=
  Ca_ext (c := sortC) h78 (v := .tuple #[]) (h' := h) rfl rfl
/-- Grow, over the library's sort. -/
theorem grow_c {X : Ext} (x : GrowXX X) (h78 : X 78 = some sortC) (h64 : X 64 = none) (h79 : X 79 = none) (k n : Nat) (hin : inRange k n = true) (h : AHeap) (a : Option Addr) (kk : Nat) (C : List ByteArray) (hC : C.length < 10000) (hst : Strs h a C) (hnil : C = [] → a = none) (hc : codeF k n C = true) (h0 : h[0]? = some noneRow) (g : GrowOK k n C) :
    Ca Tryd.prog X (.fn 41) [I k, I n, .slice a C.length kk] h (fun v h' => ∃ v1, v = .tuple #[v1, I 0] ∧ GRes h h' v1 (sortB (growF C (wordsL k n)))) := by
  obtain ⟨i1, i2, i3, i4⟩ := inRange_iff.1 hin
  have hT : (wordsL k n).length < 100000 := words_len' ⟨k, by omega⟩ ⟨n, by omega⟩
  have hl := growF_length C (wordsL k n)
  obtain ⟨e1, _, _⟩ := sorted_facts (grow_words g).1.nd
  have c := grow_ok x k n hin h a kk C hC hst hnil hc h0 g.fr (compactM seq (sortB (growF C (wordsL k n))))
    (fun h b kk hb => sorted_c h78 h64 h79 h b kk _ hb (by omega))
    (fun e => ⟨by rw [e]; simp [sortB, compactM, compOut], fun h => sorted_nil h64 h79 (fun h => sort_c_nil h78 h) h⟩)
  rw [e1] at c
  exact c

set_option maxHeartbeats 1000000 in
theorem gr_free (k0 n0 : Int) (k n : Nat) (ek : norm 3 k0 = k) (en : norm 4 n0 = n) (k1 : 1 ≤ k) (k4 : k ≤ 3) (n1 : 1 ≤ n) (n5 : n ≤ 4) (h : AHeap) (hz : h[0]? = some noneRow) (a : Option Addr) (kk : Nat) (S : List ByteArray) (hS : S.length ≤ 9223372036854775807) (hss : Strs h a S) (hsz : ∀ s ∈ S, s.size ≤ 9223372036854775807) (hfr : freeF (tameGo k n 20 S []) = true) :
    Ca Tryd.prog AX4 (.fn 10) [I k0, I n0, .slice a S.length kk] h (fun v _ => v = .bool true) := by
  obtain ⟨hok1, hok2, hok3⟩ := tame_ok (k := k) (n := n) (most := 20) k1 (by omega) S [] (by simp) List.Pairwise.nil (by simp)
  obtain ⟨T, eT⟩ : ∃ T, T = tameGo k n 20 S [] := ⟨_, rfl⟩
  rw [← eT] at hok1 hok2 hok3 hfr
  have hin : inRange k n = true := inRange_iff.2 (by omega)
  have hcodeT : codeF k n T = true := code_of hok1 hok2 (fun q hq => by simp at hq)
  have hA : (allM k n).length < 1000000 := by
    have h81 : ∀ k : Fin 5, ∀ n : Fin 5, (allM k n).length < 1000000 := by decide +kernel
    exact h81 ⟨k, by omega⟩ ⟨n, by omega⟩
  have hAw : ∀ w ∈ allM k n, w.size = n := fun w hw => by rw [Lib.size_eq]; exact (allM_mem (by omega) n w hw).1
  have gok : GrowOK k n T := ⟨hok1, rising_nd hok2, hfr⟩
  obtain ⟨L, eL⟩ : ∃ L, L = T := ⟨_, rfl⟩
  obtain ⟨R, eR⟩ : ∃ R, R = sortB (growF T (wordsL k n)) := ⟨_, rfl⟩
  have res := grow_res (k := k) (n := n) (by omega) gok
  have h81 := grow_81 (k := k) (n := n) gok (by omega) n1 n5
  rw [← eR] at res
  have hRl : R.length ≤ 81 := by rw [eR, sortB_length]; exact h81
  refine Ca_fn (fn := Tryd.f10) (c := Tryd.f10.body.getD .skip) (by kernel_rfl) (by kernel_rfl) (by kernel_rfl) (by kernel_rfl) ?_
  refine Run 1000 ?_
  refine Fin_call 23 [.slice a S.length kk, I (norm 3 k0), I (norm 4 n0), I (20 : Nat)] (by kernel_rfl) (by kernel_rfl) (by
    rw [show norm 3 k0 = k from ek, show norm 4 n0 = n from en]
    exact tame_specN (X := AX4) (by kernel_rfl) (by kernel_rfl) (by kernel_rfl) (by kernel_rfl) (by kernel_rfl) h a kk S hS hss hsz k n 20 k1 (by omega) n1 (by omega) (by omega)) (fun v2 hh2 A2 => ?_)
  rw [← eT] at A2
  obtain ⟨A2, hnil2'⟩ := A2
  have G2 := A2.grew
  obtain ⟨a2, kk2, rfl, hst2⟩ := A2.as_strs
  have hnil2 : T = [] → a2 = none := fun e => by
    have := hnil2' e
    simp only [Value.slice.injEq] at this; exact this.1
  have z2 := G2.at hz
  refine Run 1000 ?_
  refine Fin_call 41 [I (norm 3 k0), I (norm 4 n0), .slice a2 T.length kk2] (by kernel_rfl) (by kernel_rfl) (by
    rw [show norm 3 k0 = k from ek, show norm 4 n0 = n from en]
    exact grow_c growX4 (by kernel_rfl) (by kernel_rfl) (by kernel_rfl) k n hin hh2 a2 kk2 T (by omega) hst2 hnil2 hcodeT z2 gok) (fun v3 hh3 hv3 => ?_)
  obtain ⟨v3, rfl, g3⟩ := hv3
  rw [← eR] at g3
  have G3 := g3.1
  obtain ⟨ag, kg, rfl, sg⟩ := g3.strs
  refine Run 1000 ?_
  refine Fin_call 32 [.slice a2 T.length kk2] (by kernel_rfl) (by kernel_rfl) (by
    have c := free_spec (X := AX4) hh3 a2 kk2 T n (by kernel_rfl) (by omega) (hst2.grow G3) (fun w h => (hok1 w h).1) n1 (by omega)
    rw [hfr] at c; exact c) (fun v4 hh4 hv4 => ?_)
  obtain ⟨rfl, rfl⟩ := hv4
  have sL := hst2.grow G3
  refine RunA 1000 2 ?_
  refine Fin_g ((R.length : Int) ≤ 81) (by kernel_rfl) (by kernel_rfl) (fun h5 => ?_) (fun h5 => by omega)
  refine Run 1000 ?_
  refine Fin_call 31 [I (norm 3 k0), I (norm 4 n0), .slice ag R.length kg] (by kernel_rfl) (by kernel_rfl) (by
    rw [show norm 3 k0 = k from ek, show norm 4 n0 = n from en]
    have c := code_spec (X := AX4) (by kernel_rfl) (by kernel_rfl) hh4 ag kg R (by omega) sg k n (by omega) (by omega)
    rw [res.code] at c; exact c) (fun v20 hh20 hv20 => ?_)
  obtain ⟨rfl, rfl⟩ := hv20
  refine RunA 1000 1 ?_
  refine Fin_call 32 [.slice ag R.length kg] (by kernel_rfl) (by kernel_rfl) (by
    have c := free_spec (X := AX4) hh20 ag kg R n (by kernel_rfl) (by omega) sg (fun w h => (res.wd w h).1) n1 (by omega)
    rw [res.free] at c; exact c) (fun v21 hh21 hv21 => ?_)
  obtain ⟨rfl, rfl⟩ := hv21
  refine RunA 1000 1 ?_
  refine Fin_call 42 [.slice ag R.length kg, .slice a2 T.length kk2] (by kernel_rfl) (by kernel_rfl) (cont_true (X := AX4) (by kernel_rfl) (by kernel_rfl) hh21 ag a2 kg kk2 R T (by omega) (by omega) sg sL res.cont) (fun v22 hh22 hv22 => ?_)
  obtain ⟨rfl, rfl⟩ := hv22
  refine RunA 1000 1 ?_
  refine Fin_call 43 [I (norm 3 k0), I (norm 4 n0), .slice ag R.length kg] (by kernel_rfl) (by kernel_rfl) (by
    rw [show norm 3 k0 = k from ek, show norm 4 n0 = n from en]
    exact full_true (X := AX4) (by kernel_rfl) (by kernel_rfl) (by kernel_rfl) (by kernel_rfl) (by kernel_rfl) k n (by omega) n1 (by omega) hh22 ag kg R (by omega) hA sg (fun w h => (res.wd w h).1) hAw res.full (fun w x hx => mem_withS.1 hx)) (fun v23 hh23 hv23 => ?_)
  obtain ⟨rfl, G23⟩ := hv23
  refine RunA 1000 1 ?_
  refine Fin_call 22 [] (by kernel_rfl) (by kernel_rfl) (awake_ca4 hh23) (fun v24 hh24 hv24 => ?_)
  obtain ⟨rfl, rfl⟩ := hv24
  refine RunA 1000 10 ?_
  exact Fin_r (by kernel_rfl) ⟨Or.inr rfl, .bool true, by kernel_rfl, rfl⟩
set_option maxHeartbeats 1000000 in
theorem gr_clash (k0 n0 : Int) (k n : Nat) (ek : norm 3 k0 = k) (en : norm 4 n0 = n) (k1 : 1 ≤ k) (k4 : k ≤ 3) (n1 : 1 ≤ n) (n5 : n ≤ 4) (h : AHeap) (hz : h[0]? = some noneRow) (a : Option Addr) (kk : Nat) (S : List ByteArray) (hS : S.length ≤ 9223372036854775807) (hss : Strs h a S) (hsz : ∀ s ∈ S, s.size ≤ 9223372036854775807) (hfr : freeF (tameGo k n 20 S []) = false) :
    Ca Tryd.prog AX4 (.fn 10) [I k0, I n0, .slice a S.length kk] h (fun v _ => v = .bool true) := by
  obtain ⟨hok1, hok2, hok3⟩ := tame_ok (k := k) (n := n) (most := 20) k1 (by omega) S [] (by simp) List.Pairwise.nil (by simp)
  obtain ⟨T, eT⟩ : ∃ T, T = tameGo k n 20 S [] := ⟨_, rfl⟩
  rw [← eT] at hok1 hok2 hok3 hfr
  have hin : inRange k n = true := inRange_iff.2 (by omega)
  have hcodeT : codeF k n T = true := code_of hok1 hok2 (fun q hq => by simp at hq)
  have hA : (allM k n).length < 1000000 := by
    have h81 : ∀ k : Fin 5, ∀ n : Fin 5, (allM k n).length < 1000000 := by decide +kernel
    exact h81 ⟨k, by omega⟩ ⟨n, by omega⟩
  have hAw : ∀ w ∈ allM k n, w.size = n := fun w hw => by rw [Lib.size_eq]; exact (allM_mem (by omega) n w hw).1
  obtain ⟨L, eL⟩ : ∃ L, L = freeGo T [] := ⟨_, rfl⟩
  obtain ⟨f1, f2, f3, f4⟩ := free_ok T [] hok1 (rising_nd hok2) (fun w _ => by simp) (by simp) List.Pairwise.nil rfl
  rw [← eL] at f1 f2 f3 f4
  simp only [List.length_nil] at f4
  have hcode : codeF k n L = true := code_of f1 f2 (fun q hq => by simp at hq)
  have gok : GrowOK k n L := ⟨f1, rising_nd f2, f3⟩
  obtain ⟨R, eR⟩ : ∃ R, R = sortB (growF L (wordsL k n)) := ⟨_, rfl⟩
  have res := grow_res (k := k) (n := n) (by omega) gok
  have h81 := grow_81 (k := k) (n := n) gok (by omega) n1 n5
  rw [← eR] at res
  have hRl : R.length ≤ 81 := by rw [eR, sortB_length]; exact h81
  refine Ca_fn (fn := Tryd.f10) (c := Tryd.f10.body.getD .skip) (by kernel_rfl) (by kernel_rfl) (by kernel_rfl) (by kernel_rfl) ?_
  refine Run 1000 ?_
  refine Fin_call 23 [.slice a S.length kk, I (norm 3 k0), I (norm 4 n0), I (20 : Nat)] (by kernel_rfl) (by kernel_rfl) (by
    rw [show norm 3 k0 = k from ek, show norm 4 n0 = n from en]
    exact tame_specN (X := AX4) (by kernel_rfl) (by kernel_rfl) (by kernel_rfl) (by kernel_rfl) (by kernel_rfl) h a kk S hS hss hsz k n 20 k1 (by omega) n1 (by omega) (by omega)) (fun v2 hh2 A2 => ?_)
  rw [← eT] at A2
  obtain ⟨A2, hnil2'⟩ := A2
  have G2 := A2.grew
  obtain ⟨a2, kk2, rfl, hst2⟩ := A2.as_strs
  have hnil2 : T = [] → a2 = none := fun e => by
    have := hnil2' e
    simp only [Value.slice.injEq] at this; exact this.1
  have z2 := G2.at hz
  refine Run 1000 ?_
  refine Fin_call 41 [I (norm 3 k0), I (norm 4 n0), .slice a2 T.length kk2] (by kernel_rfl) (by kernel_rfl) (by
    rw [show norm 3 k0 = k from ek, show norm 4 n0 = n from en]
    exact grow_clash growX4 k n hin hh2 a2 kk2 T (by omega) hst2 hcodeT z2 hfr) (fun v3 hh3 hv3 => ?_)
  obtain ⟨rfl, G3⟩ := hv3
  refine Run 1000 ?_
  refine Fin_call 32 [.slice a2 T.length kk2] (by kernel_rfl) (by kernel_rfl) (by
    have c := free_spec (X := AX4) hh3 a2 kk2 T n (by kernel_rfl) (by omega) (hst2.grow G3) (fun w h => (hok1 w h).1) n1 (by omega)
    rw [hfr] at c; exact c) (fun v4 hh4 hv4 => ?_)
  obtain ⟨rfl, rfl⟩ := hv4
  refine RunA 1000 5 ?_
  refine Fin_call 29 [.slice a2 T.length kk2] (by kernel_rfl) (by kernel_rfl) (by
    have c := freeW_spec (X := AX4) (by kernel_rfl) (by kernel_rfl) (by kernel_rfl) hh4 a2 kk2 T n (by omega) (hst2.grow G3) (fun w h => (hok1 w h).1) n1 (by omega)
    rw [← eL] at c; exact c) (fun v5 hh5 hv5 => ?_)
  obtain ⟨⟨a5, kk5, rfl, hst5, hnil5⟩, G5⟩ := hv5
  refine Run 1000 ?_
  refine Fin_call 41 [I (norm 3 k0), I (norm 4 n0), .slice a5 L.length kk5] (by kernel_rfl) (by kernel_rfl) (by
    rw [show norm 3 k0 = k from ek, show norm 4 n0 = n from en]
    have c := grow_c growX4 (by kernel_rfl) (by kernel_rfl) (by kernel_rfl) k n hin hh5 a5 kk5 L (by omega) hst5 hnil5 hcode ((G3.trans G5).at z2) gok
    rw [← eR] at c; exact c) (fun v6 hh6 hv6 => ?_)
  obtain ⟨v6, rfl, g6⟩ := hv6
  have G6 := g6.1
  obtain ⟨ag, kg, rfl, sg⟩ := g6.strs
  have sL := hst5.grow G6
  refine RunA 1000 1 ?_
  refine Fin_g ((R.length : Int) ≤ 81) (by kernel_rfl) (by kernel_rfl) (fun h5 => ?_) (fun h5 => by omega)
  refine Run 1000 ?_
  refine Fin_call 31 [I (norm 3 k0), I (norm 4 n0), .slice ag R.length kg] (by kernel_rfl) (by kernel_rfl) (by
    rw [show norm 3 k0 = k from ek, show norm 4 n0 = n from en]
    have c := code_spec (X := AX4) (by kernel_rfl) (by kernel_rfl) hh6 ag kg R (by omega) sg k n (by omega) (by omega)
    rw [res.code] at c; exact c) (fun v20 hh20 hv20 => ?_)
  obtain ⟨rfl, rfl⟩ := hv20
  refine RunA 1000 1 ?_
  refine Fin_call 32 [.slice ag R.length kg] (by kernel_rfl) (by kernel_rfl) (by
    have c := free_spec (X := AX4) hh20 ag kg R n (by kernel_rfl) (by omega) sg (fun w h => (res.wd w h).1) n1 (by omega)
    rw [res.free] at c; exact c) (fun v21 hh21 hv21 => ?_)
  obtain ⟨rfl, rfl⟩ := hv21
  refine RunA 1000 1 ?_
  refine Fin_call 42 [.slice ag R.length kg, .slice a5 L.length kk5] (by kernel_rfl) (by kernel_rfl) (cont_true (X := AX4) (by kernel_rfl) (by kernel_rfl) hh21 ag a5 kg kk5 R L (by omega) (by omega) sg sL res.cont) (fun v22 hh22 hv22 => ?_)
  obtain ⟨rfl, rfl⟩ := hv22
  refine RunA 1000 1 ?_
  refine Fin_call 43 [I (norm 3 k0), I (norm 4 n0), .slice ag R.length kg] (by kernel_rfl) (by kernel_rfl) (by
    rw [show norm 3 k0 = k from ek, show norm 4 n0 = n from en]
    exact full_true (X := AX4) (by kernel_rfl) (by kernel_rfl) (by kernel_rfl) (by kernel_rfl) (by kernel_rfl) k n (by omega) n1 (by omega) hh22 ag kg R (by omega) hA sg (fun w h => (res.wd w h).1) hAw res.full (fun w x hx => mem_withS.1 hx)) (fun v23 hh23 hv23 => ?_)
  obtain ⟨rfl, G23⟩ := hv23
  refine RunA 1000 1 ?_
  refine Fin_call 22 [] (by kernel_rfl) (by kernel_rfl) (awake_ca4 hh23) (fun v24 hh24 hv24 => ?_)
  obtain ⟨rfl, rfl⟩ := hv24
  refine RunA 1000 10 ?_
  exact Fin_r (by kernel_rfl) ⟨Or.inr rfl, .bool true, by kernel_rfl, rfl⟩
/-- The law. -/
theorem gr_true (k0 n0 : Int) (h : AHeap) (hz : h[0]? = some noneRow) (a : Option Addr) (kk : Nat) (S : List ByteArray) (hS : S.length ≤ 9223372036854775807) (hss : Strs h a S) (hsz : ∀ s ∈ S, s.size ≤ 9223372036854775807) :
    Ca Tryd.prog AX4 (.fn 10) [I k0, I n0, .slice a S.length kk] h (fun v _ => v = .bool true) := by
  obtain ⟨k, k1, k4, ek⟩ := norm_in 3 (by omega) (by omega) k0
  obtain ⟨n, n1, n5, en⟩ := norm_in 4 (by omega) (by omega) n0
  cases hf : freeF (tameGo k n 20 S []) with
  | true => exact gr_free k0 n0 k n ek en k1 k4 n1 n5 h hz a kk S hS hss hsz hf
  | false => exact gr_clash k0 n0 k n ek en k1 k4 n1 n5 h hz a kk S hS hss hsz hf
end Go.Proofs.YtpbmpdocgplhpaaDoor
