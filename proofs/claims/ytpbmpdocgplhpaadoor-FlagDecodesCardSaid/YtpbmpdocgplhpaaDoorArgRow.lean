/-
  Further rows that come in, behind others; three numbers that come in.
-/
import Derived.Test.YtpbmpdocgplhpaaDoorSlArg
import Derived.Test.YtpbmpdocgplhpaaDoorRdK
import Derived.ChangeSlices
import Derived.OpenShut
set_option linter.unusedSimpArgs false
set_option linter.unusedVariables false
set_option maxRecDepth 100000
namespace Go.Proofs.YtpbmpdocgplhpaaDoor
open Go Go.AM Go.ChangeShapes Go.WideShapes Go.ChangeAt Go.RowKit

theorem add_row {W : World} {ρ : Rho} {h : AHeap} (R : HRel Tryd.prog.globals.size ρ h W) (hro : ∀ o ∈ h, o.own = false) {blk off cap : Nat} {c : Array Value} {t : TypeId} {fz : Nat × Nat} (hb : W.heap[blk]? = some (.cells c t fz)) {vals : List Value}
    (hcs : off + vals.length ≤ c.size) (hcap : vals.length ≤ cap) (hv : ∀ i v, vals[i]? = some v → c[off + i]? = some v ∧ ∀ ρ1, VRel ρ1 v v) :
    ∃ ρ1 : Rho, HRel Tryd.prog.globals.size ρ1 (h ++ [AObj.row vals false]) W ∧ RhoLe ρ ρ1 ∧ ρ1 h.length = some ⟨blk, off, off + cap⟩ ∧ (∀ o ∈ h ++ [AObj.row vals false], o.own = false) := by
  have hblk : blk < W.heap.size := by
    by_cases hh : blk < W.heap.size
    · exact hh
    · rw [Array.getElem?_eq_none (by omega)] at hb; simp at hb
  obtain ⟨ρ1, eρ⟩ : ∃ ρ1 : Rho, ρ1 = fun b => if b < h.length then ρ b else if b = h.length then some ⟨blk, off, off + cap⟩ else none := ⟨_, rfl⟩
  have hle : RhoLe ρ ρ1 := by
    intro b p hp
    have hb4 : b < h.length := R.bd b p hp
    rw [eρ]; simp only [hb4, if_true]; exact hp
  have hrow : (h ++ [AObj.row vals false])[h.length]? = some (.row vals false) := by rw [List.getElem?_append_right (Nat.le_refl _)]; simp
  refine ⟨ρ1, ⟨?_, ?_, ?_, ?_, ?_, ?_, ?_, R.gsz⟩, hle, by rw [eρ]; simp, ?_⟩
  · intro b o hb' hl
    by_cases h4 : b < h.length
    · rw [List.getElem?_append_left h4] at hb'
      obtain ⟨p, hp⟩ := R.dom b o hb' hl
      exact ⟨p, hle b p hp⟩
    · have : b = h.length := by
        by_cases hh : b < h.length + 1
        · omega
        · rw [List.getElem?_eq_none (by simp; omega)] at hb'; simp at hb'
      subst this
      exact ⟨⟨blk, off, off + cap⟩, by rw [eρ]; simp⟩
  · intro b o p hb' hp
    by_cases h4 : b < h.length
    · rw [List.getElem?_append_left h4] at hb'
      rw [eρ] at hp
      simp only [h4, if_true] at hp
      exact (R.obj b o p hb' hp).mono hle (fun _ => rfl)
    · rw [eρ] at hp
      simp only [h4, if_false] at hp
      split at hp
      · rename_i e4
        subst e4
        simp only [Option.some.injEq] at hp
        subst hp
        rw [hrow] at hb'
        simp only [Option.some.injEq] at hb'
        subst hb'
        refine ⟨c, t, fz, hb, by simpa using hcs, fun i v hi => ?_, by simp; omega, by simp⟩
        exact ⟨v, (hv i v hi).1, (hv i v hi).2 _⟩
      · simp at hp
  · intro b p hp
    by_cases h4 : b < h.length
    · rw [eρ] at hp
      simp only [h4, if_true] at hp
      exact R.lt b p hp
    · rw [eρ] at hp
      simp only [h4, if_false] at hp
      split at hp
      · simp only [Option.some.injEq] at hp; subst hp; exact hblk
      · simp at hp
  · intro b p hp
    rw [eρ] at hp
    by_cases h4 : b < h.length
    · simp; omega
    · simp only [h4, if_false] at hp
      split at hp
      · simp; omega
      · simp at hp
  · intro b b' o o' p p' _ hb' _ _ _ ho _
    have hm := List.mem_of_getElem? hb'
    rcases List.mem_append.1 hm with hm | hm
    · rw [hro o hm] at ho; simp at ho
    · simp only [List.mem_singleton] at hm; subst hm; simp [AObj.own] at ho
  · intro g hg
    obtain ⟨en, he⟩ := R.glob g hg
    exact ⟨en, hle g _ he⟩
  · intro b o p hb' _ ho
    have hm := List.mem_of_getElem? hb'
    rcases List.mem_append.1 hm with hm | hm
    · rw [hro o hm] at ho; simp at ho
    · simp only [List.mem_singleton] at hm; subst hm; simp [AObj.own] at ho
  · intro o hm
    rcases List.mem_append.1 hm with hm | hm
    · exact hro o hm
    · simp only [List.mem_singleton] at hm; subst hm; rfl

structure IntArg (W : World) (v : Value) (h h' : AHeap) (ρ ρ' : Rho) (a : Option Addr) (kk : Nat) (Z : List Int) : Prop where
  rel : HRel Tryd.prog.globals.size ρ' h' W
  ro : ∀ o ∈ h', o.own = false
  le : RhoLe ρ ρ'
  grew : Grew h h'
  val : VRel ρ' (.slice a Z.length kk) v
  ints : IntsIn h' a Z
  len : Z.length ≤ 9223372036854775807
theorem int_cell {W : World} {ρ : Rho} {h : AHeap} (R : HRel Tryd.prog.globals.size ρ h W) (hro : ∀ o ∈ h, o.own = false) {H : Type} {enc : TypeId × Value → H} {fuel : Nat} {v : Value} {x : DataW H × List MemPlace} (hf : DataW.trod enc Tryd.prog W 0 (fun _ => true) true fuel 40 [v] = some x) :
    ∃ h' ρ' a kk Z, IntArg W v h h' ρ ρ' a kk Z := by
  rcases open_ints Tryd.underlying40 Tryd.underlying3 (by kernel_rfl) hf with ⟨e, _⟩ | ⟨a, len, cap, ss, e, _, hlc, hcm, hss, _, hcell, hsz⟩
  · simp only [List.cons.injEq, and_true] at e
    rw [e]
    exact ⟨h, ρ, none, 0, [], R, hro, .refl ρ, ⟨[], by simp⟩, .nilslice, Or.inl rfl, by simp⟩
  · simp only [List.cons.injEq, and_true] at e
    rw [e]
    simp only [if_true] at hss
    unfold maxLen at hcm
    by_cases hc0 : cap = 0
    · subst hc0
      obtain rfl : len = 0 := by omega
      exact ⟨h, ρ, some ⟨0, 0, some 1⟩, 1, [], R, hro, .refl ρ, ⟨[], by simp⟩, .slice0 0 0 1 a 1, Or.inl rfl, by simp⟩
    · have hspot : ∃ c t fz, W.heap[a.block]? = some (.cells c t fz) ∧ a.spot = none ∧ ∀ i, i < ss.length → c[a.off + i]? = some (.int .i64 (ss.getD i 0)) := by
        have h0 := hcell 0 (by omega)
        have hadd : a.add 0 = a := rfl
        rw [hadd] at h0
        unfold World.cell? at h0
        split at h0
        · rename_i c t fz hb
          split at h0
          · simp at h0
          · rename_i hs
            refine ⟨c, t, fz, hb, by simpa using hs, fun i hi => ?_⟩
            have hi := hcell i hi
            unfold World.cell? Addr.add at hi
            by_cases hz : i = 0
            · subst hz
              simpa using h0
            · simp only [hz, if_false, hb] at hi
              simpa using hi
        · simp at h0
      obtain ⟨c, t, fz, hb, hsp, hcc⟩ := hspot
      obtain ⟨blk, off, sp⟩ := a
      simp only at hb hsp hcc
      subst hsp
      have hcs : off + ss.length ≤ c.size := by
        have := hcc (ss.length - 1) (by omega)
        by_cases hh : off + (ss.length - 1) < c.size
        · omega
        · rw [Array.getElem?_eq_none (by omega)] at this; simp at this
      obtain ⟨ρ1, R1, hle, hp, hro1⟩ := add_row R hro (off := off) (cap := cap) hb (vals := ss.map fun z => .int .i64 z) (by simpa using hcs) (by simp; omega) (fun i v hi => by
        rw [List.getElem?_map] at hi
        cases hg : ss[i]? with
        | none => rw [hg] at hi; simp at hi
        | some z =>
          rw [hg] at hi
          simp only [Option.map_some, Option.some.injEq] at hi
          subst hi
          have hlt : i < ss.length := (List.getElem?_eq_some_iff.1 hg).1
          have h1 := hcc i hlt
          rw [List.getD_eq_getElem?_getD, hg] at h1
          exact ⟨h1, fun _ => .int _ _⟩)
      refine ⟨_, ρ1, some ⟨h.length, 0, some 1⟩, len + 1, ss.take len, R1, hro1, hle, ⟨_, rfl⟩, ?_, ?_, ?_⟩
      · have hl : (ss.take len).length = len := by rw [List.length_take]; omega
        rw [hl]
        have := VRel.slice (ρ := ρ1) (b := h.length) (o := 0) (sz := 1) (len := len) (k := len + 1) (cap := cap) (p := ⟨blk, off, off + cap⟩) hp hlc (by simp) (fun h => by omega)
        simpa using this
      · refine Or.inr ⟨h.length, rfl, ss.map fun z => .int .i64 z, by rw [List.getElem?_append_right (Nat.le_refl _)]; simp, fun i hi => ?_⟩
        simp only [List.length_take] at hi
        rw [List.getElem?_map, List.getElem?_eq_getElem (by omega), List.getElem_take]; rfl
      · rw [List.length_take]; omega
theorem int_arg {W : World} {ρ : Rho} {h : AHeap} (R : HRel Tryd.prog.globals.size ρ h W) (hro : ∀ o ∈ h, o.own = false) {H : Type} {enc : TypeId × Value → H} {base : Nat} {v : Value} {d : DataW H} {ps : List MemPlace} (hval : Value.okWide Tryd.prog W .any base 40 v) (hd : DataW.Trod enc Tryd.prog W 0 (fun _ => true) true 40 v d ps) :
    ∃ h' ρ' a kk Z, IntArg W v h h' ρ ρ' a kk Z := by
  obtain ⟨a0, len0, cap0, rfl⟩ := okWide_slice Tryd.underlying40 hval
  obtain ⟨fuel, hf⟩ := hd
  exact int_cell R hro hf

theorem okWide_arr {P : Program} {w : World} {r : Reach} {base : Nat} {t : TypeId} {v : Value} {n : Nat} {e : TypeId} (ht : P.underlying t = some (.array n e)) (h : Value.okWide P w r base t v) : ∃ cs, v = .agg cs ∧ cs.size = P.cellsOf t := by
  simp only [Value.okWide, ht] at h
  obtain ⟨cs, h1, h2, _⟩ := h
  exact ⟨cs, h1, h2⟩
/-- Three numbers that come in. -/
theorem int3_arg {W : World} {H : Type} {enc : TypeId × Value → H} {base : Nat} {v : Value} {d : DataW H} {ps : List MemPlace} (hval : Value.okWide Tryd.prog W .any base 56 v) (hd : DataW.Trod enc Tryd.prog W 0 (fun _ => true) true 56 v d ps) :
    ∃ x y z, v = .agg #[.int .i64 x, .int .i64 y, .int .i64 z] := by
  obtain ⟨cs, rfl, hsz⟩ := okWide_arr Tryd.underlying56 hval
  obtain ⟨fuel, hf⟩ := hd
  have hcs : (Value.agg cs).cells.toList = cs.toList := rfl
  rw [hcs] at hf
  obtain ⟨xs, m, _, _, hl, hlen, hfs⟩ := DataW.trod_array Tryd.underlying56 hf
  have hc3 : Tryd.prog.cellsOf 56 = 3 := by kernel_rfl
  have c3 : Tryd.prog.cellsOf 3 = 1 := by kernel_rfl
  rw [hc3] at hsz
  obtain ⟨cl⟩ := cs
  match cl, hsz with
  | [x0, x1, x2], _ =>
    have f0 := hfs 0 (by omega)
    have f1 := hfs 1 (by omega)
    have f2 := hfs 2 (by omega)
    rw [c3] at f0 f1 f2
    match xs, hlen with
    | [y0, y1, y2], _ =>
      obtain ⟨k, e0, _, _⟩ := DataW.trod_int Tryd.underlying3 (f0.trans rfl : _ = some y0)
      obtain ⟨n, e1, _, _⟩ := DataW.trod_int Tryd.underlying3 (f1.trans rfl : _ = some y1)
      obtain ⟨q, e2, _, _⟩ := DataW.trod_int Tryd.underlying3 (f2.trans rfl : _ = some y2)
      have g0 : x0 = .int .i64 k := by simpa using e0
      have g1 : x1 = .int .i64 n := by simpa using e1
      have g2 : x2 = .int .i64 q := by simpa using e2
      subst g0 g1 g2
      exact ⟨k, n, q, rfl⟩
theorem int3_rel {ρ : Rho} {x y z : Int} : VRel ρ (.agg #[.int .i64 x, .int .i64 y, .int .i64 z]) (.agg #[.int .i64 x, .int .i64 y, .int .i64 z]) := by
  refine .agg rfl fun i hi hi' => ?_
  match i, hi with
  | 0, _ => exact .int _ _
  | 1, _ => exact .int _ _
  | 2, _ => exact .int _ _
end Go.Proofs.YtpbmpdocgplhpaaDoor
