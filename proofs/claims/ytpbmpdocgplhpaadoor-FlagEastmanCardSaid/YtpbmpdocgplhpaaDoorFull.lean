/-
  The reference's Contains and Full, where they are true.
-/
import Derived.Test.YtpbmpdocgplhpaaDoorFree
import Derived.Test.YtpbmpdocgplhpaaDoorMC
import Derived.Test.YtpbmpdocgplhpaaDoorME
import Derived.Test.YtpbmpdocgplhpaaDoorMI
set_option linter.unusedSimpArgs false
set_option linter.unusedVariables false
set_option maxRecDepth 100000
namespace Go.Proofs.YtpbmpdocgplhpaaDoor
open Go Go.AM

theorem cont_loop {X : Ext} (hX57 : X 57 = none) (h : AHeap) (a b : Option Addr) (ka kb : Nat) (G L : List ByteArray) (hG : G.length < 1000000) (hL : L.length < 1000000) (sG : Strs h a G) (sL : Strs h b L) (hall : ∀ w ∈ L, w ∈ G) :
    ∀ (t i : Nat) (f : Nat → Value), i + t = L.length → Knows f [(0, .slice a G.length ka), (1, .slice b L.length kb), (5, I i)] →
    Fin Tryd.prog X none Tryd.f42.ntmps (lpN Tryd.f42 0) .normal ⟨f, h⟩ (fun e y => (e = .normal ∨ e = .ret) ∧ ∃ v, fresults Tryd.prog Tryd.f42.results.toList y = some v ∧ v = .bool true ∧ y.h = h) := by
  intro t
  induction t with
  | zero =>
    intro i f hi hf
    refine Fin_known _ hf ?_
    refine Fin_unrl ?_
    refine Run 1000 ?_
    refine Fin_c ((i : Int) < L.length) (by kernel_rfl) (fun h1 => by omega) (fun h1 => ?_)
    refine Run 1000 ?_
    exact Fin_r (by kernel_rfl) ⟨Or.inr rfl, .bool true, by kernel_rfl, rfl, rfl⟩
  | succ t ih =>
    intro i f hi hf
    have hlt : i < L.length := by omega
    obtain ⟨b1, o1, rfl, hld⟩ := sL.at hlt
    obtain ⟨w, ew⟩ : ∃ w, w = L[i] := ⟨_, rfl⟩
    rw [← ew] at hld
    have hin : w ∈ G := hall w (by rw [ew]; exact List.getElem_mem _)
    refine Fin_known _ hf ?_
    refine Fin_unrl ?_
    refine Run 1000 ?_
    refine Fin_c ((i : Int) < L.length) (by kernel_rfl) (fun h1 => ?_) (fun h1 => by omega)
    refine Run 1000 ?_
    refine IdxA 22 b1 o1 1 L.length kb .i64 i (by kernel_rfl) (by kernel_rfl) ti22 rfl ti9 rfl (by omega) (by omega) ?_
    refine Run 1000 ?_
    refine Load 9 (.pointer (some ⟨b1, o1 + (i : Int).toNat * 1, none⟩)) (.string w) (by kernel_rfl) (by kernel_rfl) (by simpa using hld) ?_
    refine Run 1000 ?_
    refine Fin_call 57 [.slice a G.length ka, .string w] (by kernel_rfl) (by kernel_rfl) (by
      have c := has_spec (X := X) hX57 h a ka G w (by omega) sG
      rw [isIn_has, isIn_iff.2 hin] at c; exact c) (fun v2 hh2 hv2 => ?_)
    obtain ⟨rfl, rfl⟩ := hv2
    refine RunA 1000 1 ?_
    refine Fin_goto (lpN Tryd.f42 0) hh2 [(0, .slice a G.length ka), (1, .slice (some ⟨b1, o1, some 1⟩) L.length kb), (5, I (IntKind.wrap .i64 ((i : Int) + 1)))] (by kernel_rfl) rfl (by kernel_rfl) (fun f' hf' => ?_)
    rw [wrap_next hlt (by omega)] at hf'
    exact ih (i + 1) f' (by omega) hf'
theorem cont_true {X : Ext} (hX : X 42 = none) (hX57 : X 57 = none) (h : AHeap) (a b : Option Addr) (ka kb : Nat) (G L : List ByteArray) (hG : G.length < 1000000) (hL : L.length < 1000000) (sG : Strs h a G) (sL : Strs h b L) (hall : ∀ w ∈ L, w ∈ G) :
    Ca Tryd.prog X (.fn 42) [.slice a G.length ka, .slice b L.length kb] h (fun v h' => v = .bool true ∧ h' = h) := by
  refine Ca_fn (fn := Tryd.f42) (c := Tryd.f42.body.getD .skip) hX (by kernel_rfl) (by kernel_rfl) (by kernel_rfl) ?_
  refine Run 1000 ?_
  refine Fin_goto (lpN Tryd.f42 0) h [(0, .slice a G.length ka), (1, .slice b L.length kb), (5, I (0 : Nat))] (by kernel_rfl) rfl (by kernel_rfl) (fun f' hf' => ?_)
  exact cont_loop hX57 h a b ka kb G L hG hL sG sL hall L.length 0 f' (by omega) hf'

theorem full_loop {X : Ext} (hX57 : X 57 = none) (hX53 : X 53 = none) (hX32 : X 32 = none) (h0 : AHeap) (a b : Option Addr) (ka kb : Nat) (G L : List ByteArray) (n : Nat) (hn1 : 1 ≤ n) (hn : n ≤ 1000) (hG : G.length < 100000) (hL : L.length < 1000000) (sG : Strs h0 a G) (sL : Strs h0 b L) (gw : ∀ w ∈ G, w.size = n) (lw : ∀ w ∈ L, w.size = n)
    (hall : ∀ w ∈ L, w ∈ G ∨ freeF (withS G w) = false) (memW : ∀ w x, x ∈ withS G w → x ∈ G ∨ x = w) :
    ∀ (t i : Nat) (f : Nat → Value) (h : AHeap), i + t = L.length → Grew h0 h → Knows f [(2, .slice a G.length ka), (7, .slice b L.length kb), (8, I i)] →
    Fin Tryd.prog X none Tryd.f43.ntmps (lpN Tryd.f43 0) .normal ⟨f, h⟩ (fun e y => (e = .normal ∨ e = .ret) ∧ ∃ v, fresults Tryd.prog Tryd.f43.results.toList y = some v ∧ v = .bool true ∧ Grew h0 y.h) := by
  intro t
  induction t with
  | zero =>
    intro i f h hi hg hf
    refine Fin_known _ hf ?_
    refine Fin_unrl ?_
    refine Run 1000 ?_
    refine Fin_c ((i : Int) < L.length) (by kernel_rfl) (fun h1 => by omega) (fun h1 => ?_)
    refine Run 1000 ?_
    exact Fin_r (by kernel_rfl) ⟨Or.inr rfl, .bool true, by kernel_rfl, rfl, hg⟩
  | succ t ih =>
    intro i f h hi hg hf
    have hlt : i < L.length := by omega
    obtain ⟨b1, o1, rfl, hld⟩ := (sL.grow hg).at hlt
    obtain ⟨w, ew⟩ : ∃ w, w = L[i] := ⟨_, rfl⟩
    rw [← ew] at hld
    have hwm : w ∈ L := by rw [ew]; exact List.getElem_mem _
    have hor := hall w hwm
    obtain ⟨isin, ein⟩ : ∃ q, q = isIn w G := ⟨_, rfl⟩
    have hwl : (withS G w).length = G.length + 1 := by unfold withS; exact putAt_length _ _ _ (before_le G w)
    have hws : ∀ x ∈ withS G w, x.size = n := by
      intro x hx
      rcases memW w x hx with hx | rfl
      · exact gw x hx
      · exact lw _ hwm
    refine Fin_known _ hf ?_
    refine Fin_unrl ?_
    refine Run 1000 ?_
    refine Fin_c ((i : Int) < L.length) (by kernel_rfl) (fun h1 => ?_) (fun h1 => by omega)
    refine Run 1000 ?_
    refine IdxA 22 b1 o1 1 L.length kb .i64 i (by kernel_rfl) (by kernel_rfl) ti22 rfl ti9 rfl (by omega) (by omega) ?_
    refine Run 1000 ?_
    refine Load 9 (.pointer (some ⟨b1, o1 + (i : Int).toNat * 1, none⟩)) (.string w) (by kernel_rfl) (by kernel_rfl) (by simpa using hld) ?_
    refine Run 1000 ?_
    refine Fin_call 57 [.slice a G.length ka, .string w] (by kernel_rfl) (by kernel_rfl) (by
      have c := has_spec (X := X) hX57 h a ka G w (by omega) (sG.grow hg)
      rw [isIn_has, ← ein] at c; exact c) (fun v2 hh2 hv2 => ?_)
    obtain ⟨rfl, rfl⟩ := hv2
    cases isin with
    | true =>
      refine RunA 1000 3 ?_
      refine Fin_goto (lpN Tryd.f43 0) hh2 [(2, .slice a G.length ka), (7, .slice (some ⟨b1, o1, some 1⟩) L.length kb), (8, I (IntKind.wrap .i64 ((i : Int) + 1)))] (by kernel_rfl) rfl (by kernel_rfl) (fun f' hf' => ?_)
      rw [wrap_next hlt (by omega)] at hf'
      exact ih (i + 1) f' hh2 (by omega) hg hf'
    | false =>
      have hfr : freeF (withS G w) = false := by
        rcases hor with hor | hor
        · rw [isIn_iff.2 hor] at ein; simp at ein
        · exact hor
      refine RunA 1000 1 ?_
      refine IdxA 22 b1 o1 1 L.length kb .i64 i (by kernel_rfl) (by kernel_rfl) ti22 rfl ti9 rfl (by omega) (by omega) ?_
      refine Run 1000 ?_
      refine Load 9 (.pointer (some ⟨b1, o1 + (i : Int).toNat * 1, none⟩)) (.string w) (by kernel_rfl) (by kernel_rfl) (by simpa using hld) ?_
      refine Run 1000 ?_
      refine Fin_call 53 [.slice a G.length ka, .string w] (by kernel_rfl) (by kernel_rfl) (with_spec hX53 hh2 a ka G w (by omega) (sG.grow hg)) (fun v3 hh3 A3 => ?_)
      have G3 := A3.grew
      obtain ⟨a3, k3, rfl, s3⟩ := A3.as_strs
      refine Run 1000 ?_
      refine Fin_call 32 [.slice a3 (withS G w).length k3] (by kernel_rfl) (by kernel_rfl) (by
        have c := free_spec (X := X) hh3 a3 k3 (withS G w) n hX32 (by omega) s3 hws hn1 hn
        rw [hfr] at c; exact c) (fun v4 hh4 hv4 => ?_)
      obtain ⟨rfl, rfl⟩ := hv4
      refine RunA 1000 3 ?_
      refine Fin_goto (lpN Tryd.f43 0) hh4 [(2, .slice a G.length ka), (7, .slice (some ⟨b1, o1, some 1⟩) L.length kb), (8, I (IntKind.wrap .i64 ((i : Int) + 1)))] (by kernel_rfl) rfl (by kernel_rfl) (fun f' hf' => ?_)
      rw [wrap_next hlt (by omega)] at hf'
      exact ih (i + 1) f' hh4 (by omega) (hg.trans G3) hf'
theorem full_true {X : Ext} (hX : X 43 = none) (hX51 : X 51 = none) (hX57 : X 57 = none) (hX53 : X 53 = none) (hX32 : X 32 = none) (k n : Nat) (hk : k ≤ 4) (hn1 : 1 ≤ n) (hn : n ≤ 5) (h : AHeap) (a : Option Addr) (ka : Nat) (G : List ByteArray) (hG : G.length < 100000) (hA : (allM k n).length < 1000000) (sG : Strs h a G) (gw : ∀ w ∈ G, w.size = n) (lw : ∀ w ∈ allM k n, w.size = n)
    (hall : ∀ w ∈ allM k n, w ∈ G ∨ freeF (withS G w) = false) (memW : ∀ w x, x ∈ withS G w → x ∈ G ∨ x = w) :
    Ca Tryd.prog X (.fn 43) [I k, I n, .slice a G.length ka] h (fun v h' => v = .bool true ∧ Grew h h') := by
  refine Ca_fn (fn := Tryd.f43) (c := Tryd.f43.body.getD .skip) hX (by kernel_rfl) (by kernel_rfl) (by kernel_rfl) ?_
  refine Run 1000 ?_
  refine Fin_call 51 [I k, I n] (by kernel_rfl) (by kernel_rfl) (all_spec hX51 k n hk hn1 hn h) (fun v1 hh1 A1 => ?_)
  have G1 := A1.grew
  obtain ⟨a1, k1, rfl, s1⟩ := A1.as_strs
  refine Run 1000 ?_
  refine Fin_goto (lpN Tryd.f43 0) hh1 [(2, .slice a G.length ka), (7, .slice a1 (allM k n).length k1), (8, I (0 : Nat))] (by kernel_rfl) rfl (by kernel_rfl) (fun f' hf' => ?_)
  exact (full_loop hX57 hX53 hX32 hh1 a a1 ka k1 G (allM k n) n hn1 (by omega) hG hA (sG.grow G1) s1 gw lw hall memW (allM k n).length 0 f' hh1 (by omega) (Grew.refl _) hf').imp fun e y ⟨he, v, hv, hr, hg⟩ => ⟨he, v, hv, hr, G1.trans hg⟩
end Go.Proofs.YtpbmpdocgplhpaaDoor
