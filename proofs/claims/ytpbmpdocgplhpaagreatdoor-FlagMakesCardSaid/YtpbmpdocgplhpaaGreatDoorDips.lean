/-
  flag.dips: the pieces of a ring of words.
-/
import Derived.Test.YtpbmpdocgplhpaaGreatDoorCmpr
import Derived.Test.YtpbmpdocgplhpaaGreatDoorGrowK
import Derived.Test.YtpbmpdocgplhpaaGreatDoorMI
set_option linter.unusedSimpArgs false
set_option linter.unusedVariables false
set_option maxRecDepth 100000
namespace Go.Proofs.YtpbmpdocgplhpaaGreatDoor
open Go Go.AM

def gt (L : List ByteArray) (j : Nat) : ByteArray := L.getD j .empty
def dipAt (L : List ByteArray) (i : Nat) : Bool := decide (cmpF (gt L ((i + L.length - 2) % L.length)) (gt L ((i + L.length - 1) % L.length)) ≥ 0) && decide (cmpF (gt L ((i + L.length - 1) % L.length)) (gt L i) < 0)
def endGo (L : List ByteArray) : Nat → Nat → Nat
  | 0, _ => 0
  | t + 1, i => bif dipAt L i then i + 1 else endGo L t (i + 1)
def endF (L : List ByteArray) : Nat := endGo L L.length 0
def rot (L : List ByteArray) (e : Nat) : List ByteArray := L.drop e ++ L.take e
def dipEnd (N : List ByteArray) : Bool := decide (1 < N.length) && decide (cmpF (gt N (N.length - 2)) (gt N (N.length - 1)) < 0)
def dipsGo : List ByteArray → List (List ByteArray) → List ByteArray → List (List ByteArray)
  | [], D, _ => D
  | w :: r, D, N => bif dipEnd (N ++ [w]) then dipsGo r (D ++ [N ++ [w]]) [] else dipsGo r D (N ++ [w])
def dipsF (L : List ByteArray) : List (List ByteArray) := dipsGo (rot L (endF L)) [] []

theorem endGo_le (L : List ByteArray) : ∀ t i, i + t = L.length → endGo L t i ≤ L.length := by
  intro t
  induction t with
  | zero => intro i _; exact Nat.zero_le _
  | succ t ih =>
    intro i hi
    simp only [endGo]
    cases dipAt L i with
    | true => simp only [cond_true]; omega
    | false => exact ih (i + 1) (by omega)

/-- Lists of strings in a row, to be read. -/
def SStrs (h : AHeap) (a : Option Addr) (D : List (List ByteArray)) : Prop := (a = none ∨ ∃ b o, a = some ⟨b, o, some 1⟩) ∧
  ∀ i (hi : i < D.length), ∃ b o cs own x k, a = some ⟨b, o, some 1⟩ ∧ h[b]? = some (.row cs own) ∧ cs[o + i]? = some (.slice x D[i].length k) ∧ Strs h x D[i]
theorem SStrs.grow {h h' : AHeap} {a : Option Addr} {D : List (List ByteArray)} (s : SStrs h a D) (g : Grew h h') : SStrs h' a D :=
  ⟨s.1, fun i hi => by
    obtain ⟨b, o, cs, own, x, k, h1, h2, h3, h4⟩ := s.2 i hi
    exact ⟨b, o, cs, own, x, k, h1, g.at h2, h3, h4.grow g⟩⟩

theorem Grew.of_get2 {h h' : AHeap} (hl : h.length ≤ h'.length) (hg : ∀ j, j < h.length → h'[j]? = h[j]?) : Grew h h' := by
  refine ⟨h'.drop h.length, ?_⟩
  apply List.ext_getElem?
  intro j
  by_cases hj : j < h.length
  · rw [hg j hj, List.getElem?_append_left hj]
  · rw [List.getElem?_append_right (by omega), List.getElem?_drop]; congr 1; omega
/-- The pieces so far, in rows of their own. -/
structure OutS (h0 h : AHeap) (v : Value) (D : List (List ByteArray)) : Prop where
  old : Grew h0 h
  val : (D = [] ∧ v = .slice none 0 0) ∨ ∃ b V, h0.length ≤ b ∧ v = .slice (some ⟨b, 0, some 1⟩) D.length (D.length + 1) ∧ h[b]? = some (.row V true) ∧ V.length = D.length ∧ V.all isCell = true ∧
    ∀ i (hi : i < D.length), ∃ c k, V[i]? = some (.slice (some ⟨c, 0, some 1⟩) D[i].length k) ∧ c ≠ b ∧ h[c]? = some (.row (strs D[i]) true)
theorem OutS.sstrs {h0 h : AHeap} {v : Value} {D : List (List ByteArray)} (o : OutS h0 h v D) : ∃ a k, v = .slice a D.length k ∧ SStrs h a D := by
  rcases o.val with ⟨rfl, rfl⟩ | ⟨b, V, _, rfl, hb, hl, _, he⟩
  · exact ⟨none, 0, rfl, Or.inl rfl, fun i hi => by simp at hi⟩
  · refine ⟨_, _, rfl, Or.inr ⟨b, 0, rfl⟩, fun i hi => ?_⟩
    obtain ⟨c, k, h1, _, h3⟩ := he i hi
    refine ⟨b, 0, V, true, _, k, rfl, hb, by rw [Nat.zero_add]; exact h1, Or.inr ⟨c, 0, rfl⟩, fun j hj => ⟨c, 0, _, true, rfl, h3, by rw [Nat.zero_add]; exact strs_get (List.getElem?_eq_getElem hj)⟩⟩
/-- One piece more. -/
theorem OutS.push {h0 h h2 : AHeap} {v : Value} {D : List (List ByteArray)} (o : OutS h0 h v D) (g : Grew h h2) {N : List ByteArray} {bN kN : Nat} (hbN : h.length ≤ bN) (hN : h2[bN]? = some (.row (strs N) true)) (hD : D.length < 1000000) :
    ∃ v' h', aappend Tryz.prog (h2 ++ [.row [.slice (some ⟨bN, 0, some 1⟩) N.length kN] true]) 121 v (.slice (some ⟨h2.length, 0, some 1⟩) 1 1) = some (v', h') ∧ OutS h0 h' v' (D ++ [N]) := by
  have hnew : loadN (h2 ++ [AObj.row [Value.slice (some ⟨bN, 0, some 1⟩) N.length kN] true]) h2.length 0 (1 * 1) = some [.slice (some ⟨bN, 0, some 1⟩) N.length kN] := by simp [loadN, cells?]
  have hle := g.le
  have hle0 := o.old.le
  have hbl := lt_of_get hN
  have hlim : decide (D.length + 1 ≤ lim) = true := decide_eq_true (by simp only [lim]; omega)
  rcases o.val with ⟨rfl, rfl⟩ | ⟨b, V, hb0, rfl, hb, hl, hcell, he⟩
  · refine ⟨.slice (some ⟨(h2 ++ [AObj.row [Value.slice (some ⟨bN, 0, some 1⟩) N.length kN] true]).length, 0, some 1⟩) (0 + 1) (0 + 1 + 1), (h2 ++ [AObj.row [Value.slice (some ⟨bN, 0, some 1⟩) N.length kN] true]) ++ [.row [.slice (some ⟨bN, 0, some 1⟩) N.length kN] true], ?_, ?_, ?_⟩
    · simp only [aappend, ti98, elemsLen, ti22, loadElems, if_true, hnew]
      simp [lim, limBytes]
    · exact (o.old.trans g).trans ⟨[AObj.row [Value.slice (some ⟨bN, 0, some 1⟩) N.length kN] true, .row [.slice (some ⟨bN, 0, some 1⟩) N.length kN] true], by simp⟩
    · refine Or.inr ⟨(h2 ++ [AObj.row [Value.slice (some ⟨bN, 0, some 1⟩) N.length kN] true]).length, [.slice (some ⟨bN, 0, some 1⟩) N.length kN], by simp; omega, by simp, by rw [List.getElem?_append_right (Nat.le_refl _)]; simp, rfl, rfl, fun i hi => ?_⟩
      have : i = 0 := by simp at hi; omega
      subst this
      refine ⟨bN, kN, rfl, by simp; omega, ?_⟩
      rw [List.getElem?_append_left (by simp; omega), List.getElem?_append_left hbl]; exact hN
  · have hbb := lt_of_get hb
    have hb2 : h2[b]? = some (.row V true) := g.at hb
    have hold : loadN (h2 ++ [AObj.row [Value.slice (some ⟨bN, 0, some 1⟩) N.length kN] true]) b 0 (D.length * 1) = some V := by
      simp only [loadN, cells?, List.getElem?_append_left (lt_of_get hb2), hb2]
      rw [if_pos (by omega)]
      rw [List.drop_zero, List.take_of_length_le (by omega)]
    have hb3 : (h2 ++ [AObj.row [Value.slice (some ⟨bN, 0, some 1⟩) N.length kN] true])[b]? = some (.row V true) := by rw [List.getElem?_append_left (lt_of_get hb2)]; exact hb2
    obtain ⟨h3, e3⟩ : ∃ h3, h3 = h2 ++ [AObj.row [Value.slice (some ⟨bN, 0, some 1⟩) N.length kN] true] := ⟨_, rfl⟩
    rw [← e3] at hnew hold hb3 ⊢
    have l3 : h3.length = h2.length + 1 := by rw [e3]; simp
    have at3 : ∀ j, j < h2.length → h3[j]? = h2[j]? := fun j hj => by rw [e3, List.getElem?_append_left hj]
    refine ⟨.slice (some ⟨h3.length, 0, some 1⟩) (D.length + 1) (D.length + 1 + 1), h3.set b .dead ++ [.row (V ++ [.slice (some ⟨bN, 0, some 1⟩) N.length kN]) true], ?_, ?_, ?_⟩
    · simp only [aappend, ti98, elemsLen, ti22, loadElems, if_true, hnew, hold, hb3, hlim, limBytes]
      simp [isCell]
    · refine Grew.of_get2 (by simp; omega) (fun j hj => ?_)
      rw [List.getElem?_append_left (by simp; omega), List.getElem?_set_ne (by omega), at3 j (by omega), g.get (by omega), o.old.get hj]
    · refine Or.inr ⟨h3.length, V ++ [.slice (some ⟨bN, 0, some 1⟩) N.length kN], by omega, by simp, by rw [List.getElem?_append_right (by simp)]; simp, by simp [hl], by simp [List.all_append, hcell, isCell], fun i hi => ?_⟩
      by_cases hiD : i < D.length
      · obtain ⟨c, k, q1, q2, q3⟩ := he i hiD
        have hcl := lt_of_get q3
        refine ⟨c, k, ?_, by omega, ?_⟩
        · rw [List.getElem?_append_left (by omega), q1, List.getElem_append_left hiD]
        · rw [List.getElem?_append_left (by simp; omega), List.getElem?_set_ne (fun e => q2 e.symm), at3 c (by omega), g.get hcl, q3, List.getElem_append_left hiD]
      · have : i = D.length := by simp at hi; omega
        subst this
        refine ⟨bN, kN, ?_, by omega, ?_⟩
        · rw [List.getElem?_append_right (by omega)]; simp [hl]
        · rw [List.getElem?_append_left (by simp; omega), List.getElem?_set_ne (by omega), at3 bN hbl, hN]; simp
end Go.Proofs.YtpbmpdocgplhpaaGreatDoor
