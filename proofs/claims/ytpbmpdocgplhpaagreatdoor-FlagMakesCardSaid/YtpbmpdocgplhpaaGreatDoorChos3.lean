/-
  flag.chosen, whole.
-/
import Derived.Test.YtpbmpdocgplhpaaGreatDoorChos2
set_option linter.unusedSimpArgs false
set_option linter.unusedVariables false
set_option maxRecDepth 100000
namespace Go.Proofs.YtpbmpdocgplhpaaGreatDoor
open Go Go.AM

structure ChosX (X : Ext) : Prop where
  c : CmpX X
  x71 : X 39 = none
  x82 : X 73 = some splitC
  x87 : X 78 = some joinC
  x83 : X 74 = none
  x67 : X 113 = none
  x84 : X 75 = none
  x85 : X 76 = none
  x86 : X 77 = none

def ChQ (h0 : AHeap) (r : ByteArray) (e : AExit) (y : FS) : Prop := (e = .normal ∨ e = .ret) ∧ ∃ v, fresults Tryz.prog Tryz.f39.results.toList y = some v ∧ v = .string r ∧ Grew h0 y.h
theorem chos_last {X : Ext} (h0 h : AHeap) (a : Option Addr) (kk : Nat) (L : List ByteArray) (hL : L.length = 1) (hs : Strs h a L) (hG : Grew h0 h) (f : Nat → Value) (hf : Knows f [(3, .slice a L.length kk)]) :
    Fin Tryz.prog X none Tryz.f39.ntmps (lpN Tryz.f39 0) .normal ⟨f, h⟩ (ChQ h0 (gt L 0)) := by
  obtain ⟨b, o, rfl, _⟩ := hs.at (i := 0) (by omega)
  refine Fin_known _ hf ?_
  refine Fin_unrl ?_
  refine Run 1000 ?_
  refine Fin_c ((L.length : Int) > 1) (by kernel_rfl) (fun h1 => by omega) (fun h1 => ?_)
  refine Run 1000 ?_
  refine IdxA 27 b o 1 L.length kk .i64 0 (by kernel_rfl) (by kernel_rfl) ti22 rfl ti9 rfl (by omega) (by omega) ?_
  refine Run 1000 ?_
  refine Load 9 (.pointer (some ⟨b, o + (0 : Int).toNat * 1, none⟩)) (.string (gt L 0)) (by kernel_rfl) (by kernel_rfl) (hs.ldg (by omega) (by simp)) ?_
  refine Run 1000 ?_
  exact Fin_r (by kernel_rfl) ⟨Or.inr rfl, .string (gt L 0), by kernel_rfl, rfl, hG⟩
theorem fo_odd {D : List (List ByteArray)} (h : fo D < D.length) : oddB (D[fo D]'h) = true := List.findIdx_getElem (p := oddB) (w := h)
theorem fo_no {D : List (List ByteArray)} (j : Nat) (hj : j < D.length) (h : j < fo D) : oddB D[j] = false := by
  have := List.not_of_lt_findIdx (p := oddB) h
  simpa using this
theorem chos_out {X : Ext} (x : ChosX X) (h0 : AHeap) :
    ∀ (t : Nat) (f : Nat → Value) (h : AHeap) (a : Option Addr) (kk : Nat) (L : List ByteArray), goodGo t L = true → Strs h a L → Grew h0 h → Knows f [(3, .slice a L.length kk)] →
    Fin Tryz.prog X none Tryz.f39.ntmps (lpN Tryz.f39 0) .normal ⟨f, h⟩ (ChQ h0 (gt (chosenGo t L) 0)) := by
  intro t
  induction t with
  | zero =>
    intro f h a kk L hg hs hG hf
    exact chos_last h0 h a kk L (by simpa [goodGo] using hg) hs hG f hf
  | succ t ih =>
    intro f h a kk L hg hs hG hf
    simp only [goodGo, chosenGo] at hg ⊢
    by_cases hlen : 1 < L.length
    · rw [decide_eq_true hlen] at hg ⊢
      simp only [cond_true, Bool.and_eq_true, decide_eq_true_eq] at hg ⊢
      obtain ⟨⟨hL, hD⟩, hgo⟩ := hg
      obtain ⟨D, eD⟩ : ∃ D, D = dipsF L := ⟨_, rfl⟩
      rw [← eD] at hD
      have hstep : stepF L = (rotD D).foldl mergeD [] := by rw [eD]; rfl
      unfold okD at hD
      simp only [Bool.and_eq_true, decide_eq_true_eq, List.all_eq_true] at hD
      obtain ⟨⟨hfo, hD100⟩, hall⟩ := hD
      have hDne : D ≠ [] := fun e => by rw [e] at hfo; simp at hfo
      obtain ⟨p, ep⟩ : ∃ p, p = fo D := ⟨_, rfl⟩
      have hodd := fo_odd hfo
      have hno := fun j hj h => fo_no (D := D) j hj h
      have hR : D.drop p ++ D.take p = rotD D := by unfold rotD; rw [ep]
      have hRl : (rotD D).length = D.length := by unfold rotD; simp; omega
      have hR0 : ∃ h : 0 < (rotD D).length, oddB (rotD D)[0] = true := by
        refine ⟨by omega, ?_⟩
        have e0 : (rotD D)[0]? = some (D[fo D]'hfo) := by
          unfold rotD
          rw [List.getElem?_append_left (by simp; omega), List.getElem?_drop, Nat.add_zero, List.getElem?_eq_getElem hfo]
        have e1 : (rotD D)[0]'(by omega) = D[fo D]'hfo := by
          have := List.getElem?_eq_getElem (l := rotD D) (i := 0) (by omega)
          rw [e0] at this
          exact (Option.some.inj this).symm
        rw [e1]; exact hodd
      obtain ⟨hR0, hRodd⟩ := hR0
      have hmem : ∀ d ∈ rotD D, (joinF d).size ≤ 10000 ∧ 1 ≤ d.length ∧ d.length ≤ 1000 := by
        intro d hd
        have : d ∈ D := by
          unfold rotD at hd
          rcases List.mem_append.1 hd with hd | hd
          · exact List.mem_of_mem_drop hd
          · exact List.mem_of_mem_take hd
        have := hall d this
        exact ⟨this.1.1, this.1.2, this.2⟩
      have c83 := dips_spec x.x83 x.x67 x.c h a kk L (by omega) hL hs
      rw [← eD] at c83
      simp only [← ep] at hodd hno hfo
      refine Fin_known _ hf ?_
      refine Fin_unrl ?_
      refine Run 1000 ?_
      refine Fin_c ((L.length : Int) > 1) (by kernel_rfl) (fun h1 => ?_) (fun h1 => by omega)
      refine Run 1000 ?_
      refine Fin_call 74 [.slice a L.length kk] (by kernel_rfl) (by kernel_rfl) c83 (fun v2 h2 hv2 => ?_)
      obtain ⟨⟨aD, kD, rfl, sD⟩, G2⟩ := hv2
      obtain ⟨a1, k1, e1, s1⟩ := sslice_on sD hDne kD p (by omega)
      obtain ⟨a3, k3, e3, s3⟩ := sslice_upto sD hDne kD p (by omega)
      obtain ⟨h4, e4⟩ : ∃ h4, h4 = h2 ++ [AObj.row [Value.slice a1 (D.drop p).length k1, Value.slice a3 (D.take p).length k3] true] := ⟨_, rfl⟩
      have G4 : Grew h2 h4 := ⟨_, e4⟩
      have hq : h4[h2.length]? = some (.row [Value.slice a1 (D.drop p).length k1, Value.slice a3 (D.take p).length k3] true) := by rw [e4, List.getElem?_append_right (Nat.le_refl _)]; simp
      have c86 := joined2_spec x.x86 h4 h2.length 2 true a1 a3 k1 k3 (D.drop p) (D.take p) hq (s1.grow G4) (s3.grow G4) (by simp; omega)
      rw [hR] at c86
      refine Run 1000 ?_
      refine Fin_call 75 [.slice aD D.length kD, .func (.func 76) #[] #[]] (by kernel_rfl) (by kernel_rfl) (idxo_spec x.x84 x.x85 h2 aD kD D (by omega) sD p hfo hodd hno) (fun v3 hh3 hv3 => ?_)
      obtain ⟨rfl, rfl⟩ := hv3
      refine Run 1000 ?_
      refine Draw (by kernel_rfl) ?_
      refine Run 1000 ?_
      refine Slic 121 (.slice aD D.length kD) (.slice a1 (D.drop p).length k1) (some (I p)) none none (by kernel_rfl) (by kernel_rfl) e1 ?_
      refine Run 1000 ?_
      refine Slic 121 (.slice aD D.length kD) (.slice a3 (D.take p).length k3) none (some (I p)) none (by kernel_rfl) (by kernel_rfl) e3 ?_
      refine Run 1000 ?_
      refine Bld 158 2 [(0, .slice a1 (D.drop p).length k1), (1, .slice a3 (D.take p).length k3)] (.slice (some ⟨hh3.length, 0, some 1⟩) 2 2) h4 (by kernel_rfl) (by kernel_rfl) (by rw [e4]; simp [abuildSlice, ti111, ti98, zerosOf, afill, splice, isCell, Value.cells, isData]) ?_
      refine Run 1000 ?_
      refine Fin_call 77 [.slice (some ⟨hh3.length, 0, some 1⟩) 2 2] (by kernel_rfl) (by kernel_rfl) c86 (fun v5 h5 hv5 => ?_)
      obtain ⟨⟨a5, k5, rfl, s5⟩, G5⟩ := hv5
      refine Run 1000 ?_
      refine Fin_goto (lpN Tryz.f39 1) h5 [(25, .slice a5 (rotD D).length k5), (26, I (rotD D).length), (27, I (0 : Nat)), (6, .slice none 0 0)] (by kernel_rfl) rfl (by kernel_rfl) (fun f2 hf2 => ?_)
      refine chos_in x.x87 h5 a5 k5 (rotD D) (by omega) s5 hmem hR0 hRodd (stepF L) (fun f6 h6 v6 A6 hf6 => ?_) (rotD D).length 0 f2 h5 _ [] (by omega) (by rw [List.drop_zero, hstep]) (Acc.nil h5) (fun _ => rfl) (by simp) (by simp) hf2
      have G6 := A6.grew
      obtain ⟨a6, k6, rfl, s6⟩ := A6.as_strs
      exact ih f6 h6 a6 k6 (stepF L) hgo s6 (hG.trans (G2.trans (G4.trans (G5.trans G6)))) hf6
    · rw [decide_eq_false hlen] at hg ⊢
      simp only [cond_false] at hg ⊢
      exact chos_last h0 h a kk L (by simpa using hg) hs hG f hf
theorem charsB_length (s : ByteArray) : (Lib.charsB s).length = s.size := Lib.charsUpTo_length s s.size
theorem chosen_spec {X : Ext} (x : ChosX X) (w : ByteArray) (hw : asciiB w = true) (hsz : w.size < 1000000) (hg : goodGo 4 (Lib.charsB w) = true) (h : AHeap) :
    Ca Tryz.prog X (.fn 39) [.string w] h (fun v h' => v = .string (chosenF w) ∧ Grew h h') := by
  have c82 : Ca Tryz.prog X (.fn 73) [.string w, .string ⟨#[]⟩] h (fun v h' => v = .slice (some ⟨h.length, 0, some 1⟩) w.size w.size ∧ h' = h ++ [.row (strs (Lib.charsB w)) true]) := by
    refine Ca_ext (c := splitC) x.x82 (v := .slice (some ⟨h.length, 0, some 1⟩) w.size w.size) (h' := h ++ [.row (strs (Lib.charsB w)) true]) ?_ ⟨rfl, rfl⟩
    simp only [splitC]
    rw [if_pos ⟨rfl, hw, hsz⟩]
  refine Ca_fn (fn := Tryz.f39) (c := Tryz.f39.body.getD .skip) x.x71 (by kernel_rfl) (by kernel_rfl) (by kernel_rfl) ?_
  refine Run 1000 ?_
  refine Fin_call 73 [.string w, .string ⟨#[]⟩] (by kernel_rfl) (by kernel_rfl) c82 (fun v1 h1 hv1 => ?_)
  obtain ⟨rfl, e1⟩ := hv1
  have G1 : Grew h h1 := ⟨_, e1⟩
  have hr : h1[h.length]? = some (.row (strs (Lib.charsB w)) true) := by rw [e1, List.getElem?_append_right (Nat.le_refl _)]; simp
  have s1 : Strs h1 (some ⟨h.length, 0, some 1⟩) (Lib.charsB w) := ⟨Or.inr ⟨_, 0, rfl⟩, fun j hj => ⟨h.length, 0, _, true, rfl, hr, by rw [Nat.zero_add]; exact strs_get (List.getElem?_eq_getElem hj)⟩⟩
  refine Run 1000 ?_
  refine Fin_goto (lpN Tryz.f39 0) h1 [(3, .slice (some ⟨h.length, 0, some 1⟩) w.size w.size)] (by kernel_rfl) rfl (by kernel_rfl) (fun f' hf' => ?_)
  have := chos_out x h 4 f' h1 (some ⟨h.length, 0, some 1⟩) w.size (Lib.charsB w) hg s1 G1 (by rw [charsB_length]; exact hf')
  exact this.imp fun e y ⟨he, v, hv, hr, hG⟩ => ⟨he, v, hv, hr, hG⟩
end Go.Proofs.YtpbmpdocgplhpaaGreatDoor
