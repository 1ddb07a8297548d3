/-
  A slice of strings that comes in: a row that is but read.
-/
import Derived.Test.YtpbmpdocgplhpaaDoorDec
import Derived.Test.YtpbmpdocgplhpaaDoorMH
import Derived.SliceStrings
import Derived.Carry
set_option linter.unusedSimpArgs false
set_option linter.unusedVariables false
set_option maxRecDepth 100000
namespace Go.Proofs.YtpbmpdocgplhpaaDoor
open Go Go.AM Go.ChangeShapes Go.WideShapes Go.ChangeAt Go.RowKit

/-- From the abstract executor to the machine, from a heap of rows that are but read. -/
theorem calls_true2 {W : World} {X : Ext} {ρ : Rho} {h : AHeap} (H : HRel Tryd.prog.globals.size ρ h W) (ro : ∀ o ∈ h, o.own = false) (hX : ExtOK Tryd.prog W X) {f : FuncId} {args : List Value} (c : Ca Tryd.prog X (.fn f) args h (fun v _ => v = .bool true)) {args' : Array Value} (ha : LRel ρ args args'.toList) :
    Calls Tryd.prog f args' W fun e W' => e = .returned (.bool true) ∧ (∀ c, c < W.heap.size → W'.heap[c]? = W.heap[c]?) ∧ W'.os = W.os ∧ W'.output = W.output ∧ Go.RowKit.Below W.heap.size W W' := by
  obtain ⟨N, v, h', rfl, hN⟩ := c
  refine (calls_of mixed progOK' hX (hN N (Nat.le_refl N)) H (fun _ _ => rfl) ha).mono fun e W' ⟨ρ', v', he, hv, _, hF⟩ => ?_
  cases hv
  have hb : ∀ c, c < W.heap.size → W'.heap[c]? = W.heap[c]? := by
    intro c hc
    refine hF.keep c hc (fun b o p hb ho _ => ?_)
    rw [ro o (List.mem_of_getElem? hb)] at ho
    simp at ho
  exact ⟨he, hb, hF.os, hF.output, hF.os, hF.tape, hF.output, hF.size, hb⟩

/-- The argument's value, and its row behind the variables of packages. -/
structure StrArg (W : World) (v : Value) (h : AHeap) (ρ : Rho) (a : Option Addr) (kk : Nat) (S : List ByteArray) : Prop where
  rel : HRel Tryd.prog.globals.size ρ h W
  ro : ∀ o ∈ h, o.own = false
  none : h[0]? = some noneRow
  val : VRel ρ (.slice a S.length kk) v
  strs : Strs h a S
  len : S.length ≤ 9223372036854775807
  sz : ∀ s ∈ S, s.size ≤ 9223372036854775807

theorem noneH0 : H0[0]? = some noneRow := rfl
theorem str_cell {W : World} (S : Go.AM.Start Tryd.prog ρ0 H0 W) {H : Type} {enc : TypeId × Value → H} {fuel : Nat} {v : Value} {x : DataW H × List MemPlace} (hf : DataW.trod enc Tryd.prog W 0 (fun _ => true) true fuel 22 [v] = some x) :
    ∃ h ρ a kk SS, StrArg W v h ρ a kk SS := by
  have hro : ∀ o ∈ H0, o.own = false := S.ro
  rcases open_strings Tryd.underlying22 Tryd.underlying9 (by kernel_rfl) hf with ⟨e, _⟩ | ⟨a, len, cap, ss, e, _, hlc, hcm, hss, _, hcell, hsz⟩
  · simp only [List.cons.injEq, and_true] at e
    rw [e]
    exact ⟨H0, ρ0, none, 0, [], S.rel, hro, noneH0, .nilslice, ⟨Or.inl rfl, by intro i hi; simp at hi⟩, by simp, by simp⟩
  · simp only [List.cons.injEq, and_true] at e
    rw [e]
    simp only [if_true] at hss
    unfold maxLen at hcm hsz
    by_cases hc0 : cap = 0
    · subst hc0
      obtain rfl : len = 0 := by omega
      exact ⟨H0, ρ0, some ⟨0, 0, some 1⟩, 1, [], S.rel, hro, noneH0, .slice0 0 0 1 a 1, ⟨Or.inr ⟨0, 0, rfl⟩, by intro i hi; simp at hi⟩, by simp, by simp⟩
    · have hspot : ∃ c t fz, W.heap[a.block]? = some (.cells c t fz) ∧ a.spot = none ∧ ∀ i, i < ss.length → c[a.off + i]? = some (.string (ss.getD i ByteArray.empty)) := by
        have h0 := hcell 0 (by omega)
        have hadd : a.add 0 = a := rfl
        rw [hadd] at h0
        unfold World.cell? at h0
        split at h0
        · rename_i c t fz hb
          split at h0
          · simp at h0
          · rename_i hs
            refine ⟨c, t, fz, hb, by simpa using hs, fun i hi => ?_⟩
            have hi := hcell i hi
            unfold World.cell? Addr.add at hi
            by_cases hz : i = 0
            · subst hz
              simpa using h0
            · simp only [hz, if_false, hb] at hi
              simpa using hi
        · simp at h0
      obtain ⟨c, t, fz, hb, hsp, hcc⟩ := hspot
      obtain ⟨blk, off, sp⟩ := a
      simp only at hb hsp hcc
      subst hsp
      have hblk : blk < W.heap.size := by
        by_cases hh : blk < W.heap.size
        · exact hh
        · rw [Array.getElem?_eq_none (by omega)] at hb; simp at hb
      have hcs : off + ss.length ≤ c.size := by
        have := hcc (ss.length - 1) (by omega)
        by_cases hh : off + (ss.length - 1) < c.size
        · omega
        · rw [Array.getElem?_eq_none (by omega)] at this; simp at this
      have R := S.rel
      obtain ⟨ρ1, eρ⟩ : ∃ ρ1 : Rho, ρ1 = fun b => if b < 4 then ρ0 b else if b = 4 then some ⟨blk, off, off + cap⟩ else none := ⟨_, rfl⟩
      have hle : RhoLe ρ0 ρ1 := by
        intro b p hp
        have hb4 : b < 4 := by
          have := R.bd b p hp
          simpa [H0] using this
        rw [eρ]; simp only [hb4, if_true]; exact hp
      have hrow : (H0 ++ [AObj.row (strs ss) false])[4]? = some (.row (strs ss) false) := rfl
      refine ⟨H0 ++ [AObj.row (strs ss) false], ρ1, some ⟨4, 0, some 1⟩, len + 1, ss.take len, ⟨?_, ?_, ?_, ?_, ?_, ?_, ?_, R.gsz⟩, ?_, rfl, ?_, ?_, ?_, ?_⟩
      · intro b o hb' hl
        by_cases h4 : b < 4
        · rw [List.getElem?_append_left (by simpa [H0] using h4)] at hb'
          obtain ⟨p, hp⟩ := R.dom b o hb' hl
          exact ⟨p, hle b p hp⟩
        · have : b = 4 := by
            by_cases hh : b < 5
            · omega
            · rw [List.getElem?_eq_none (by simp [H0]; omega)] at hb'; simp at hb'
          subst this
          exact ⟨⟨blk, off, off + cap⟩, by rw [eρ]; simp⟩
      · intro b o p hb' hp
        by_cases h4 : b < 4
        · rw [List.getElem?_append_left (by simpa [H0] using h4)] at hb'
          rw [eρ] at hp
          simp only [h4, if_true] at hp
          exact (R.obj b o p hb' hp).mono hle (fun _ => rfl)
        · rw [eρ] at hp
          simp only [h4, if_false] at hp
          split at hp
          · rename_i e4
            subst e4
            simp only [Option.some.injEq] at hp
            subst hp
            rw [hrow] at hb'
            simp only [Option.some.injEq] at hb'
            subst hb'
            refine ⟨c, t, fz, hb, by simpa [strs_length] using hcs, fun i v hv => ?_, by simp [strs_length]; omega, by simp⟩
            have hi : i < ss.length := by
              by_cases hh : i < ss.length
              · exact hh
              · rw [List.getElem?_eq_none (by rw [strs_length]; omega)] at hv; simp at hv
            refine ⟨.string (ss.getD i ByteArray.empty), hcc i hi, ?_⟩
            have : v = .string (ss.getD i ByteArray.empty) := by
              have h1 := strs_get (List.getElem?_eq_getElem hi)
              rw [h1] at hv
              simp only [Option.some.injEq] at hv
              rw [← hv, List.getD_eq_getElem?_getD, List.getElem?_eq_getElem hi]; rfl
            rw [this]; exact .string _
          · simp at hp
      · intro b p hp
        by_cases h4 : b < 4
        · rw [eρ] at hp
          simp only [h4, if_true] at hp
          exact R.lt b p hp
        · rw [eρ] at hp
          simp only [h4, if_false] at hp
          split at hp
          · simp only [Option.some.injEq] at hp; subst hp; exact hblk
          · simp at hp
      · intro b p hp
        rw [eρ] at hp
        by_cases h4 : b < 4
        · simp [H0]; omega
        · simp only [h4, if_false] at hp
          split at hp
          · simp [H0]; omega
          · simp at hp
      · intro b b' o o' p p' _ hb' _ _ _ ho _
        have hm := List.mem_of_getElem? hb'
        rcases List.mem_append.1 hm with hm | hm
        · rw [hro o hm] at ho; simp at ho
        · simp only [List.mem_singleton] at hm; subst hm; simp [AObj.own] at ho
      · intro g hg
        obtain ⟨en, he⟩ := R.glob g hg
        exact ⟨en, hle g _ he⟩
      · intro b o p hb' _ ho
        have hm := List.mem_of_getElem? hb'
        rcases List.mem_append.1 hm with hm | hm
        · rw [hro o hm] at ho; simp at ho
        · simp only [List.mem_singleton] at hm; subst hm; simp [AObj.own] at ho
      · intro o hm
        rcases List.mem_append.1 hm with hm | hm
        · exact hro o hm
        · simp only [List.mem_singleton] at hm; subst hm; rfl
      · have hl : (ss.take len).length = len := by rw [List.length_take]; omega
        rw [hl]
        have := VRel.slice (ρ := ρ1) (b := 4) (o := 0) (sz := 1) (len := len) (k := len + 1) (cap := cap) (p := ⟨blk, off, off + cap⟩) (by rw [eρ]; simp) hlc (by simp) (fun h => by omega)
        simpa using this
      · refine ⟨Or.inr ⟨4, 0, rfl⟩, fun i hi => ⟨4, 0, strs ss, false, rfl, hrow, ?_⟩⟩
        rw [Nat.zero_add]
        simp only [List.length_take] at hi
        have h1 := strs_get (List.getElem?_eq_getElem (l := ss) (i := i) (by omega))
        rw [h1, List.getElem_take]
      · rw [List.length_take]; omega
      · intro s hs
        have := hsz s (List.mem_of_mem_take hs)
        omega
theorem str_arg {W : World} (S : Go.AM.Start Tryd.prog ρ0 H0 W) {H : Type} {enc : TypeId × Value → H} {base : Nat} {v : Value} {d : DataW H} {ps : List MemPlace} (hval : Value.okWide Tryd.prog W .any base 22 v) (hd : DataW.Trod enc Tryd.prog W 0 (fun _ => true) true 22 v d ps) :
    ∃ h ρ a kk SS, StrArg W v h ρ a kk SS := by
  obtain ⟨a0, len0, cap0, rfl⟩ := okWide_slice Tryd.underlying22 hval
  obtain ⟨fuel, hf⟩ := hd
  exact str_cell S hf

/-- A Task that comes in. -/
theorem task_arg {W : World} (S : Go.AM.Start Tryd.prog ρ0 H0 W) {H : Type} {enc : TypeId × Value → H} {base : Nat} {v : Value} {d : DataW H} {ps : List MemPlace} (hval : Value.okWide Tryd.prog W .any base 38 v) (hd : DataW.Trod enc Tryd.prog W 0 (fun _ => true) true 38 v d ps) :
    ∃ h ρ a kk SS k n x, v = .agg #[.int .i64 k, .int .i64 n, x] ∧ StrArg W x h ρ a kk SS := by
  obtain ⟨cs, rfl, hsz⟩ := okWide_struct Tryd.underlying38 hval
  obtain ⟨fuel, hf⟩ := hd
  have hcs : (Value.agg cs).cells.toList = cs.toList := rfl
  rw [hcs] at hf
  obtain ⟨xs, m, _, _, hl, hlen, hfs⟩ := DataW.trod_struct Tryd.underlying38 hf
  have hc3 : Tryd.prog.cellsOf 38 = 3 := by kernel_rfl
  have c3 : Tryd.prog.cellsOf 3 = 1 := by kernel_rfl
  have c22 : Tryd.prog.cellsOf 22 = 1 := by kernel_rfl
  rw [hc3] at hsz
  obtain ⟨cl⟩ := cs
  match cl, hsz with
  | [x0, x1, x2], _ =>
    have f0 := hfs 0 _ rfl
    have f1 := hfs 1 _ rfl
    have f2 := hfs 2 _ rfl
    have l3 : xs.length = 3 := hlen
    match xs, l3 with
    | [y0, y1, y2], _ =>
      obtain ⟨k, e0, _, _⟩ := DataW.trod_int Tryd.underlying3 (f0.trans rfl : _ = some y0)
      obtain ⟨n, e1, _, _⟩ := DataW.trod_int Tryd.underlying3 (f1.trans rfl : _ = some y1)
      have e0' : List.take (Tryd.prog.cellsOf 3) [x0, x1, x2] = [.int .i64 k] := e0
      have e1' : List.take (Tryd.prog.cellsOf 3) [x1, x2] = [.int .i64 n] := e1
      have e2' : DataW.trod enc Tryd.prog W 0 (fun _ => true) true m 22 (List.take (Tryd.prog.cellsOf 22) [x2]) = some y2 := f2
      rw [c3] at e0' e1'
      rw [c22] at e2'
      have g0 : x0 = .int .i64 k := by simpa using e0'
      have g1 : x1 = .int .i64 n := by simpa using e1'
      subst g0 g1
      obtain ⟨h, ρ, a, kk, SS, A⟩ := str_cell S (v := x2) (x := y2) e2'
      exact ⟨h, ρ, a, kk, SS, k, n, x2, rfl, A⟩
theorem task_rel {ρ : Rho} {k n : Int} {x x' : Value} (h : VRel ρ x x') : VRel ρ (.agg #[.int .i64 k, .int .i64 n, x]) (.agg #[.int .i64 k, .int .i64 n, x']) := by
  refine .agg rfl fun i hi hi' => ?_
  match i, hi with
  | 0, _ => exact .int _ _
  | 1, _ => exact .int _ _
  | 2, _ => exact h
end Go.Proofs.YtpbmpdocgplhpaaDoor
