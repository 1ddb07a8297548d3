/-
  What Grow makes of a code: plain.
-/
import Derived.Test.YtpbmpdocgplhpaaDoorGrowY
import Derived.Test.YtpbmpdocgplhpaaDoorWhPl
set_option linter.unusedSimpArgs false
set_option linter.unusedVariables false
set_option maxRecDepth 100000
namespace Go.Proofs.YtpbmpdocgplhpaaDoor
open Go Go.AM

theorem free_clR {L : List ByteArray} {n : Nat} (hw : ∀ w ∈ L, w.size = n) (hf : freeF L = true) : ClashR L none := by
  intro i j a u v hi hj h1 h2 hm
  have mu : u ∈ L := List.mem_of_getElem? hi
  have mv : v ∈ L := List.mem_of_getElem? hj
  have := (free_false hw).2 ⟨u, v, _, a, mu, mv, hm, h1, by rw [← hw u mu]; exact h2, rfl⟩
  rw [this] at hf; simp at hf
theorem words_over {k n : Nat} {w : List UInt8} (h : w ∈ wordsL k n) : (gB w).size = n ∧ overF k (gB w) = true := by
  obtain ⟨h1, h2⟩ := grow_mem _ _ _ _ h
  refine ⟨by simpa [gB_size] using h1, ?_⟩
  unfold overF
  rw [List.all_eq_true]
  intro c hc
  have hc' : c ∈ w := hc
  rw [List.contains_iff_mem]
  rcases h2 c hc' with hh | hh
  · simp at hh
  · exact hh
structure GrowOK (k n : Nat) (out : List ByteArray) : Prop where
  wd : ∀ w ∈ out, w.size = n ∧ overF k w = true
  nd : out.Nodup
  fr : freeF out = true
theorem growStep_ok {k n : Nat} {out : List ByteArray} {w : List UInt8} (g : GrowOK k n out) (hw : (gB w).size = n ∧ overF k (gB w) = true) : GrowOK k n (growStep out w) ∧ (∀ x ∈ out, x ∈ growStep out w) := by
  unfold growStep
  cases hb : !(isIn (gB w) out) && freeF (out ++ [gB w]) with
  | false => exact ⟨g, fun x hx => hx⟩
  | true =>
    rw [cond_true]
    rw [Bool.and_eq_true, Bool.not_eq_true'] at hb
    refine ⟨⟨fun x hx => ?_, ?_, hb.2⟩, fun x hx => List.mem_append_left _ hx⟩
    · rcases List.mem_append.1 hx with hx | hx
      · exact g.wd x hx
      · simp only [List.mem_singleton] at hx; rw [hx]; exact hw
    · rw [List.nodup_append]
      refine ⟨g.nd, by simp, fun a ha b hb2 e => ?_⟩
      simp only [List.mem_singleton] at hb2
      subst hb2; subst e
      rw [isIn_iff.2 ha] at hb; simp at hb
theorem growF_ok {k n : Nat} : ∀ (ws : List (List UInt8)) (out : List ByteArray), (∀ w ∈ ws, (gB w).size = n ∧ overF k (gB w) = true) → GrowOK k n out → GrowOK k n (growF out ws) ∧ (∀ x ∈ out, x ∈ growF out ws) := by
  intro ws
  induction ws with
  | nil => intro out _ g; exact ⟨g, fun x hx => hx⟩
  | cons w ws ih =>
    intro out h g
    obtain ⟨g1, s1⟩ := growStep_ok g (h w (List.mem_cons_self ..))
    obtain ⟨g2, s2⟩ := ih (growStep out w) (fun x hx => h x (List.mem_cons_of_mem _ hx)) g1
    exact ⟨g2, fun x hx => s2 x (s1 x hx)⟩
theorem grow_words {k n : Nat} {C : List ByteArray} (g : GrowOK k n C) : GrowOK k n (growF C (wordsL k n)) ∧ (∀ x ∈ C, x ∈ growF C (wordsL k n)) := growF_ok _ _ (fun w hw => words_over hw) g
theorem rings_few : ∀ k : Fin 4, ∀ n : Fin 4, (ringsL k n).length ≤ 12 := by decide +kernel
theorem grow_few {k n : Nat} {C : List ByteArray} (g : GrowOK k n C) (hk : k ≤ 3) (hn1 : 1 ≤ n) (hn : n ≤ 3) : (growF C (wordsL k n)).length ≤ 12 := by
  have g2 := (grow_words g).1
  have h1 := count_nd (free_clR (fun w h => (g2.wd w h).1) g2.fr) g2.nd g2.wd (by omega) hn1 (by omega)
  exact Nat.le_trans h1 (rings_few ⟨k, by omega⟩ ⟨n, by omega⟩)
end Go.Proofs.YtpbmpdocgplhpaaDoor
