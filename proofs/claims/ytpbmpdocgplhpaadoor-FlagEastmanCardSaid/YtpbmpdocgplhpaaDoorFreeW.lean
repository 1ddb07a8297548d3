/-
  The law's free.
-/
import Derived.Test.YtpbmpdocgplhpaaDoorDecPl
import Derived.Test.YtpbmpdocgplhpaaDoorME
set_option linter.unusedSimpArgs false
set_option linter.unusedVariables false
set_option maxRecDepth 100000
namespace Go.Proofs.YtpbmpdocgplhpaaDoor
open Go Go.AM

theorem freeW_loop {X : Ext} (hX53 : X 53 = none) (hX32 : X 32 = none) (h0 : AHeap) (a : Option Addr) (kk : Nat) (L : List ByteArray) (n : Nat) (hL : L.length < 100000) (hs0 : Strs h0 a L) (hw : ∀ w ∈ L, w.size = n) (hn1 : 1 ≤ n) (hn : n ≤ 1000) :
    ∀ (t i : Nat) (f : Nat → Value) (h : AHeap) (ao : Option Addr) (ko : Nat) (out : List ByteArray), i + t = L.length → Grew h0 h → Strs h ao out → (∀ w ∈ out, w.size = n) → out.length ≤ i → (out = [] → ao = none) → Knows f [(0, .slice a L.length kk), (3, .slice ao out.length ko), (4, I i)] →
    Fin Tryd.prog X none Tryd.f29.ntmps (lpN Tryd.f29 0) .normal ⟨f, h⟩ (fun e y => (e = .normal ∨ e = .ret) ∧ ∃ v, fresults Tryd.prog Tryd.f29.results.toList y = some v ∧ (∃ a' k', v = .slice a' (freeGo (L.drop i) out).length k' ∧ Strs y.h a' (freeGo (L.drop i) out) ∧ (freeGo (L.drop i) out = [] → a' = none)) ∧ Grew h0 y.h) := by
  intro t
  induction t with
  | zero =>
    intro i f h ao ko out hi hG so ho hl hnil hf
    refine Fin_known _ hf ?_
    refine Fin_unrl ?_
    refine Run 1000 ?_
    refine Fin_c ((i : Int) < L.length) (by kernel_rfl) (fun h1 => by omega) (fun h1 => ?_)
    refine Run 1000 ?_
    refine Fin_r (by kernel_rfl) ⟨Or.inr rfl, .slice ao out.length ko, by kernel_rfl, ?_, hG⟩
    rw [List.drop_of_length_le (by omega)]
    exact ⟨ao, ko, rfl, so, hnil⟩
  | succ t ih =>
    intro i f h ao ko out hi hG so ho hl hnil hf
    have hlt : i < L.length := by omega
    obtain ⟨b, o, rfl, hld⟩ := (hs0.grow hG).at hlt
    obtain ⟨w, ew⟩ : ∃ w, w = L[i] := ⟨_, rfl⟩
    have hwn : w.size = n := by rw [ew]; exact hw _ (List.getElem_mem _)
    rw [← ew] at hld
    have hd : L.drop i = w :: L.drop (i + 1) := by rw [ew, List.drop_eq_getElem_cons hlt]
    have hwo : ∀ x ∈ withS out w, x.size = n := by
      intro x hx
      rcases mem_withS.1 hx with hx | rfl
      · exact ho x hx
      · exact hwn
    have hwl : (withS out w).length = out.length + 1 := withS_length _ _
    rw [hd]
    simp only [freeGo]
    refine Fin_known _ hf ?_
    refine Fin_unrl ?_
    refine Run 1000 ?_
    refine Fin_c ((i : Int) < L.length) (by kernel_rfl) (fun h1 => ?_) (fun h1 => by omega)
    refine Run 1000 ?_
    refine IdxA 22 b o 1 L.length kk .i64 i (by kernel_rfl) (by kernel_rfl) ti22 rfl ti9 rfl (by omega) (by omega) ?_
    refine Run 1000 ?_
    refine Load 9 (.pointer (some ⟨b, o + (i : Int).toNat * 1, none⟩)) (.string w) (by kernel_rfl) (by kernel_rfl) (by simpa using hld) ?_
    refine Run 1000 ?_
    refine Fin_call 53 [.slice ao out.length ko, .string w] (by kernel_rfl) (by kernel_rfl) (with_spec hX53 h ao ko out w (by omega) so) (fun v4 hh4 A4 => ?_)
    have G4 := A4.grew
    obtain ⟨a4, k4, rfl, s4⟩ := A4.as_strs
    refine Run 1000 ?_
    refine Fin_call 32 [.slice a4 (withS out w).length k4] (by kernel_rfl) (by kernel_rfl) (free_spec hh4 a4 k4 (withS out w) n hX32 (by omega) s4 hwo hn1 hn) (fun v5 hh5 hv5 => ?_)
    obtain ⟨rfl, rfl⟩ := hv5
    refine Run 1000 ?_
    refine Fin_cB (freeF (withS out w)) (by kernel_rfl) ?_
    cases freeF (withS out w) with
    | true =>
      refine Run 1000 ?_
      refine Fin_goto (lpN Tryd.f29 0) hh5 [(0, .slice (some ⟨b, o, some 1⟩) L.length kk), (3, .slice a4 (withS out w).length k4), (4, I (IntKind.wrap .i64 ((i : Int) + 1)))] (by kernel_rfl) rfl (by kernel_rfl) (fun f' hf' => ?_)
      rw [wrap_next hlt (by omega)] at hf'
      exact ih (i + 1) f' hh5 a4 k4 (withS out w) (by omega) (hG.trans G4) s4 hwo (by omega) (fun e => by rw [e] at hwl; simp at hwl) hf'
    | false =>
      refine Run 1000 ?_
      refine Fin_goto (lpN Tryd.f29 0) hh5 [(0, .slice (some ⟨b, o, some 1⟩) L.length kk), (3, .slice ao out.length ko), (4, I (IntKind.wrap .i64 ((i : Int) + 1)))] (by kernel_rfl) rfl (by kernel_rfl) (fun f' hf' => ?_)
      rw [wrap_next hlt (by omega)] at hf'
      exact ih (i + 1) f' hh5 ao ko out (by omega) (hG.trans G4) (so.grow G4) ho (by omega) hnil hf'
theorem freeW_spec {X : Ext} (hX : X 29 = none) (hX53 : X 53 = none) (hX32 : X 32 = none) (h : AHeap) (a : Option Addr) (kk : Nat) (L : List ByteArray) (n : Nat) (hL : L.length < 100000) (hs0 : Strs h a L) (hw : ∀ w ∈ L, w.size = n) (hn1 : 1 ≤ n) (hn : n ≤ 1000) :
    Ca Tryd.prog X (.fn 29) [.slice a L.length kk] h (fun v h' => (∃ a' k', v = .slice a' (freeGo L []).length k' ∧ Strs h' a' (freeGo L []) ∧ (freeGo L [] = [] → a' = none)) ∧ Grew h h') := by
  refine Ca_fn (fn := Tryd.f29) (c := Tryd.f29.body.getD .skip) hX (by kernel_rfl) (by kernel_rfl) (by kernel_rfl) ?_
  refine Run 1000 ?_
  refine Fin_goto (lpN Tryd.f29 0) h [(0, .slice a L.length kk), (3, .slice none ([] : List ByteArray).length 0), (4, I (0 : Nat))] (by kernel_rfl) rfl (by kernel_rfl) (fun f' hf' => ?_)
  exact freeW_loop hX53 hX32 h a kk L n hL hs0 hw hn1 hn L.length 0 f' h none 0 [] (by omega) (Grew.refl _) ⟨Or.inl rfl, fun i hi => by simp at hi⟩ (by simp) (by simp) (fun _ => rfl) hf'
end Go.Proofs.YtpbmpdocgplhpaaDoor
