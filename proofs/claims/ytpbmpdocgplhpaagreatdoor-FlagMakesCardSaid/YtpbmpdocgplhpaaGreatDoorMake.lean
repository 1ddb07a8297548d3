/-
  flag.Make.
-/
import Derived.Test.YtpbmpdocgplhpaaGreatDoorChos3
import Derived.Test.YtpbmpdocgplhpaaGreatDoorGrl
import Derived.Test.YtpbmpdocgplhpaaGreatDoorRefuse
import Derived.Test.YtpbmpdocgplhpaaGreatDoorSrtM
set_option linter.unusedSimpArgs false
set_option linter.unusedVariables false
set_option maxRecDepth 100000
namespace Go.Proofs.YtpbmpdocgplhpaaGreatDoor
open Go Go.AM

def madeF (R : List ByteArray) : List ByteArray := compactM seq (sortB (R.map chosenF))
theorem compIn_ge (eq : ByteArray → ByteArray → Bool) : ∀ (t k j : Nat) (L : List ByteArray), k ≤ (compIn eq t k j L).1 := by
  intro t
  induction t with
  | zero => intro k j L; exact Nat.le_refl _
  | succ t ih =>
    intro k j L
    simp only [compIn]
    split
    · split
      · exact ih _ _ _
      · exact Nat.le_trans (Nat.le_succ k) (ih _ _ _)
    · exact Nat.le_refl _
theorem compOut_nil (eq : ByteArray → ByteArray → Bool) : ∀ (t k : Nat) (L : List ByteArray), 1 ≤ k → compOut eq t k L = [] → L = [] := by
  intro t
  induction t with
  | zero => intro k L _ h; exact h
  | succ t ih =>
    intro k L hk h
    simp only [compOut] at h
    split at h
    · split at h
      · have h1 := compIn_ge eq (L.length - k - 1) k (k + 1) L
        have h2 := compIn_length eq (L.length - k - 1) k (k + 1) L
        have h3 := congrArg List.length h
        rw [List.length_take, List.length_nil] at h3
        exact List.eq_nil_of_length_eq_zero (by omega)
      · exact ih _ _ (by omega) h
    · exact h
theorem made_nil {R : List ByteArray} (h : madeF R = []) : R = [] := by
  have h1 := compOut_nil _ _ _ _ (Nat.le_refl 1) h
  have h2 := congrArg List.length h1
  rw [sortB_length, List.length_map, List.length_nil] at h2
  exact List.eq_nil_of_length_eq_zero h2
structure MakeX (X : Ext) : Prop where
  ch : ChosX X
  r : RingX X
  x47 : X 12 = none
  x49 : X 37 = none
  x78 : X 63 = some sortC
  x64 : X 29 = none
  x79 : X 64 = none
theorem make_loop {X : Ext} (x : MakeX X) (h0 : AHeap) (a : Option Addr) (kk : Nat) (R : List ByteArray) (hR : R.length < 100000) (hs0 : Strs h0 a R) (hg : ∀ w ∈ R, asciiB w = true ∧ w.size < 1000000 ∧ goodGo 4 (Lib.charsB w) = true) (hh : AHeap) (G0 : Grew hh h0) :
    ∀ (t i : Nat) (f : Nat → Value) (h : AHeap) (v : Value), i + t = R.length → (R = [] → v = .slice none 0 0) → Acc h0 h v ((R.take i).map chosenF) → Knows f [(7, v), (21, .slice a R.length kk), (22, I R.length), (23, I i)] →
    Fin Tryz.prog X none Tryz.f12.ntmps (lpN Tryz.f12 0) .normal ⟨f, h⟩ (fun e y => (e = .normal ∨ e = .ret) ∧ ∃ v, fresults Tryz.prog Tryz.f12.results.toList y = some v ∧ ∃ v1, v = .tuple #[v1, I 0] ∧ GRes hh y.h v1 (madeF R) ∧ (madeF R = [] → v1 = .slice none 0 0)) := by
  intro t
  induction t with
  | zero =>
    intro i f h v hi hv0 A hf
    rw [List.take_of_length_le (by omega)] at A
    have hl0 := G0.le
    have hgr := G0.trans A.grew
    rcases A.val with ⟨e, rfl⟩ | ⟨b, hb, rfl, hr⟩
    · have hm : madeF R = [] := by unfold madeF; rw [e]; simp [sortB, compactM, compOut]
      rw [hm]
      refine Fin_known _ hf ?_
      refine Fin_unrl ?_
      refine Run 1000 ?_
      refine Fin_c ((i : Int) < R.length) (by kernel_rfl) (fun h1 => by omega) (fun h1 => ?_)
      refine Run 1000 ?_
      refine Fin_call 29 [.slice none 0 0] (by kernel_rfl) (by kernel_rfl) (sorted_nil x.x64 x.x79 (fun h => sort_c_nil x.x78 h) h) (fun v7 h7 hv7 => ?_)
      obtain ⟨rfl, rfl⟩ := hv7
      refine Run 1000 ?_
      exact Fin_r (by kernel_rfl) ⟨Or.inr rfl, .tuple #[.slice none 0 0, I 0], by kernel_rfl, _, rfl, ⟨hgr, Or.inl ⟨rfl, rfl⟩⟩, fun _ => rfl⟩
    · have c64 := sorted_c x.x78 x.x64 x.x79 h b ((R.map chosenF).length + 1) (R.map chosenF) hr (by simp; omega)
      refine Fin_known _ hf ?_
      refine Fin_unrl ?_
      refine Run 1000 ?_
      refine Fin_c ((i : Int) < R.length) (by kernel_rfl) (fun h1 => by omega) (fun h1 => ?_)
      refine Run 1000 ?_
      refine Fin_call 29 [.slice (some ⟨b, 0, some 1⟩) (R.map chosenF).length ((R.map chosenF).length + 1)] (by kernel_rfl) (by kernel_rfl) c64 (fun v7 h7 hv7 => ?_)
      obtain ⟨L', kk', rfl, e7, ht⟩ := hv7
      refine Run 1000 ?_
      refine Fin_r (by kernel_rfl) ⟨Or.inr rfl, .tuple #[.slice (some ⟨b, 0, some 1⟩) (madeF R).length kk', I 0], by kernel_rfl, _, rfl, ⟨?_, Or.inr ⟨b, kk', L', by omega, rfl, ?_, ht⟩⟩, fun e => absurd (hv0 (made_nil e)) (by simp)⟩
      · rw [e7]; exact hgr.set (by omega) _
      · rw [e7]; exact List.getElem?_set_self (lt_of_get hr)
  | succ t ih =>
    intro i f h v hi hv0 A hf
    have hlt : i < R.length := by omega
    obtain ⟨b, o, rfl, hld⟩ := (hs0.grow A.grew).at hlt
    obtain ⟨w, ew⟩ : ∃ w, w = R[i] := ⟨_, rfl⟩
    rw [← ew] at hld
    obtain ⟨g1, g2, g3⟩ := hg w (by rw [ew]; exact List.getElem_mem _)
    have htake : (R.take (i + 1)).map chosenF = (R.take i).map chosenF ++ [chosenF w] := by
      rw [List.take_succ_eq_append_getElem hlt, List.map_append, ew]; rfl
    have hpush : ∀ h2 : AHeap, ∃ p : Value × AHeap, Grew h h2 → aappend Tryz.prog (h2 ++ [AObj.row [Value.string (chosenF w)] true]) 27 v (.slice (some ⟨h2.length, 0, some 1⟩) 1 1) = some (p.1, p.2) ∧ Acc h0 p.2 p.1 ((R.take i).map chosenF ++ [chosenF w]) := by
      intro h2
      by_cases g : Grew h h2
      · obtain ⟨v', h', e, A', _, _⟩ := (A.more g).app (chosenF w) (by simp; omega)
        exact ⟨(v', h'), fun _ => ⟨e, A'⟩⟩
      · exact ⟨(v, h2), fun g2 => absurd g2 g⟩
    obtain ⟨p, hp⟩ := Classical.axiomOfChoice hpush
    refine Fin_known _ hf ?_
    refine Fin_unrl ?_
    refine Run 1000 ?_
    refine Fin_c ((i : Int) < R.length) (by kernel_rfl) (fun h1 => ?_) (fun h1 => by omega)
    refine Run 1000 ?_
    refine IdxA 27 b o 1 R.length kk .i64 i (by kernel_rfl) (by kernel_rfl) ti22 rfl ti9 rfl (by omega) (by omega) ?_
    refine Run 1000 ?_
    refine Load 9 (.pointer (some ⟨b, o + (i : Int).toNat * 1, none⟩)) (.string w) (by kernel_rfl) (by kernel_rfl) (by simpa using hld) ?_
    refine Run 1000 ?_
    refine Fin_call 39 [.string w] (by kernel_rfl) (by kernel_rfl) (chosen_spec x.ch w g1 g2 g3 h) (fun v4 h4 hv4 => ?_)
    obtain ⟨rfl, G4⟩ := hv4
    have q := hp h4 G4
    refine Run 1000 ?_
    refine Bld 27 1 [(0, .string (chosenF w))] (.slice (some ⟨h4.length, 0, some 1⟩) 1 1) (h4 ++ [AObj.row [Value.string (chosenF w)] true]) (by kernel_rfl) (by kernel_rfl) (by simp [abuildSlice, ti22, ti9, zerosOf, afill, splice, isCell, Value.cells, isData]) ?_
    refine Run 1000 ?_
    refine App 27 27 v (.slice (some ⟨h4.length, 0, some 1⟩) 1 1) (p h4).1 (p h4).2 (by kernel_rfl) (by kernel_rfl) Tryz.underlying27 (by simp) q.1 ?_
    refine Run 1000 ?_
    refine Fin_goto (lpN Tryz.f12 0) (p h4).2 [(7, (p h4).1), (21, .slice (some ⟨b, o, some 1⟩) R.length kk), (22, I R.length), (23, I (IntKind.wrap .i64 ((i : Int) + 1)))] (by kernel_rfl) rfl (by kernel_rfl) (fun f' hf' => ?_)
    rw [wrap_next hlt (by omega)] at hf'
    exact ih (i + 1) f' (p h4).2 (p h4).1 (by omega) (fun e => by rw [e] at hlt; simp at hlt) (by rw [htake]; exact q.2) hf'
theorem make_spec {X : Ext} (x : MakeX X) (k n : Nat) (hin : inRange k n = true) (hodd : n % 2 = 1) (hg : ∀ w ∈ ringsF k n, asciiB w = true ∧ w.size < 1000000 ∧ goodGo 4 (Lib.charsB w) = true) (h : AHeap) :
    Ca Tryz.prog X (.fn 12) [I k, I n] h (fun v h' => ∃ v1, v = .tuple #[v1, I 0] ∧ GRes h h' v1 (madeF (ringsF k n)) ∧ (madeF (ringsF k n) = [] → v1 = .slice none 0 0)) := by
  obtain ⟨i1, i2, i3, i4⟩ := inRange_iff.1 hin
  have c49 := open_nil x.x49 k n h
  rw [hin] at c49
  have hmod : ((Int.tmod (n : Int) 2) == 0) = false := by
    rw [Int.tmod_eq_emod_of_nonneg (by omega), Bool.eq_false_iff]
    intro hh; rw [beq_iff_eq] at hh; omega
  obtain ⟨R, eR⟩ : ∃ R, R = ringsF k n := ⟨_, rfl⟩
  have hRl : R.length < 100000 := by
    have hT : (wordsL k n).length < 100000 := words_len' ⟨k, by omega⟩ ⟨n, by omega⟩
    rw [eR, ← ringsF_out]
    unfold ringOut
    rw [List.length_map]
    exact Nat.lt_of_le_of_lt (List.length_filter_le _ _) hT
  have c50 := rings_spec x.r k n (by omega) (by omega) (by omega) h
  rw [← eR] at c50 hg ⊢
  refine Ca_fn (fn := Tryz.f12) (c := Tryz.f12.body.getD .skip) x.x47 (by kernel_rfl) (by kernel_rfl) (by kernel_rfl) ?_
  refine Run 1000 ?_
  refine Fin_call 37 [I k, I n, .slice none 0 0] (by kernel_rfl) (by kernel_rfl) c49 (fun v2 hh2 hv2 => ?_)
  obtain ⟨rfl, rfl⟩ := hv2
  refine RunA 1000 1 ?_
  refine Fin_cB false (Eq.trans (b := .bool ((Int.tmod (n : Int) 2) == 0)) (by kernel_rfl) (by rw [hmod])) ?_
  refine Run 1000 ?_
  refine Fin_call 38 [I k, I n] (by kernel_rfl) (by kernel_rfl) c50 (fun v3 h3 A3 => ?_)
  have G3 := A3.grew
  obtain ⟨a3, k3, rfl, s3⟩ := A3.as_strs
  refine Run 1000 ?_
  refine Fin_goto (lpN Tryz.f12 0) h3 [(7, .slice none 0 0), (21, .slice a3 R.length k3), (22, I R.length), (23, I (0 : Nat))] (by kernel_rfl) rfl (by kernel_rfl) (fun f' hf' => ?_)
  exact make_loop x h3 a3 k3 R hRl s3 hg hh2 G3 R.length 0 f' h3 _ (by omega) (fun _ => rfl) (Acc.nil h3) hf'
end Go.Proofs.YtpbmpdocgplhpaaGreatDoor
