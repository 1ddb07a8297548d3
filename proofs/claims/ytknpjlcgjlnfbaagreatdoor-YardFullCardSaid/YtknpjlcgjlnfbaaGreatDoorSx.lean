/-
  sorted, slices.Sort and maps.Clone as contracts; all contracts, and over trees (merged by program of Srt Srd Src Cln Axm).
-/
import Derived.Test.YtknpjlcgjlnfbaaGreatDoorCtr
import Derived.Shelf.Sort.Plain
import Derived.Shelf.Slices.In.SortNone
import Derived.Sort.KeysCollected
import Derived.Sort.OwnSorted
import Derived.Maps.RangeWalk
import Derived.Maps.AppendAt
import Derived.WalkKit
import Derived.Shelf.SlMaps.Clone
import Derived.Test.YtknpjlcgjlnfbaaGreatDoorKt
set_option linter.unusedSimpArgs false
set_option linter.unusedVariables false
set_option maxRecDepth 100000
namespace Go.Proofs.YtknpjlcgjlnfbaaGreatDoor
open Go Go.AM Go.Shelf Go.Sort
theorem set_same {h : AHeap} {b : Nat} {o : AObj} (hb : h[b]? = some o) : h = h.set b o := by
  obtain ⟨hl, e⟩ := List.getElem?_eq_some_iff.1 hb
  rw [← e]; exact (List.set_getElem_self hl).symm
def sortRen : Ren := ⟨fun | 190 => 141 | 125 => 204 | 258 => 203 | 128 => 274 | 129 => 275 | 302 => 265 | 303 => 266 | 304 => 267 | 305 => 268 | 306 => 269 | 307 => 270 | 308 => 271 | 309 => 272 | 310 => 273 | 333 => 299 | 329 => 300 | 330 => 301 | 334 => 302 | 335 => 303 | 336 => 304 | 344 => 323 | n => n, fun | 31 => 43 | 9 => 9 | 3 => 3 | 46 => 61 | 0 => 0 | 51 => 343 | 53 => 144 | 4 => 4 | 183 => 396 | 182 => 395 | 131 => 127 | 5 => 5 | 218 => 422 | 222 => 426 | 228 => 442 | 229 => 443 | n => n, fun n => n⟩
theorem sortLays : Lays.n190 Tryz.prog sortRen := {
  mixed := by kernel_rfl
  f125 := Tryz.func204.trans (congrArg some (by kernel_rfl))
  f128 := Tryz.func274.trans (congrArg some (by kernel_rfl))
  f129 := Tryz.func275.trans (congrArg some (by kernel_rfl))
  f190 := Tryz.func141.trans (congrArg some (by kernel_rfl))
  f258 := Tryz.func203.trans (congrArg some (by kernel_rfl))
  f302 := Tryz.func265.trans (congrArg some (by kernel_rfl))
  f303 := Tryz.func266.trans (congrArg some (by kernel_rfl))
  f304 := Tryz.func267.trans (congrArg some (by kernel_rfl))
  f305 := Tryz.func268.trans (congrArg some (by kernel_rfl))
  f306 := Tryz.func269.trans (congrArg some (by kernel_rfl))
  f307 := Tryz.func270.trans (congrArg some (by kernel_rfl))
  f308 := Tryz.func271.trans (congrArg some (by kernel_rfl))
  f309 := Tryz.func272.trans (congrArg some (by kernel_rfl))
  f310 := Tryz.func273.trans (congrArg some (by kernel_rfl))
  f329 := Tryz.func300.trans (congrArg some (by kernel_rfl))
  f330 := Tryz.func301.trans (congrArg some (by kernel_rfl))
  f333 := Tryz.func299.trans (congrArg some (by kernel_rfl))
  f334 := Tryz.func302.trans (congrArg some (by kernel_rfl))
  f335 := Tryz.func303.trans (congrArg some (by kernel_rfl))
  f336 := Tryz.func304.trans (congrArg some (by kernel_rfl))
  f344 := Tryz.func323.trans (congrArg some (by kernel_rfl))
  t0 := Tryz.underlying0
  a0 := Tryz.isAgg0
  z0 := Tryz.sizeOf0
  v0 := Tryz.zeroValue0
  t3 := Tryz.underlying3
  a3 := Tryz.isAgg3
  z3 := Tryz.sizeOf3
  v3 := Tryz.zeroValue3
  t4 := Tryz.underlying4
  a4 := Tryz.isAgg4
  z4 := Tryz.sizeOf4
  v4 := Tryz.zeroValue4
  t5 := Tryz.underlying5
  a5 := Tryz.isAgg5
  z5 := Tryz.sizeOf5
  v5 := Tryz.zeroValue5
  t9 := Tryz.underlying9
  a9 := Tryz.isAgg9
  z9 := Tryz.sizeOf9
  v9 := Tryz.zeroValue9
  t31 := Tryz.underlying43
  a31 := Tryz.isAgg43
  z31 := Tryz.sizeOf43
  v31 := Tryz.zeroValue43
  t46 := Tryz.underlying61
  a46 := Tryz.isAgg61
  z46 := Tryz.sizeOf61
  v46 := Tryz.zeroValue61
  t51 := Tryz.underlying343
  a51 := Tryz.isAgg343
  z51 := Tryz.sizeOf343
  v51 := Tryz.zeroValue343
  t53 := Tryz.underlying144
  a53 := Tryz.isAgg144
  z53 := Tryz.sizeOf144
  v53 := Tryz.zeroValue144
  t131 := Tryz.underlying127
  a131 := Tryz.isAgg127
  z131 := Tryz.sizeOf127
  v131 := Tryz.zeroValue127
  t182 := Tryz.underlying395
  a182 := Tryz.isAgg395
  z182 := Tryz.sizeOf395
  v182 := Tryz.zeroValue395
  t183 := Tryz.underlying396
  a183 := Tryz.isAgg396
  z183 := Tryz.sizeOf396
  v183 := Tryz.zeroValue396
  t218 := Tryz.underlying422
  a218 := Tryz.isAgg422
  z218 := Tryz.sizeOf422
  v218 := Tryz.zeroValue422
  t222 := Tryz.underlying426
  a222 := Tryz.isAgg426
  z222 := Tryz.sizeOf426
  v222 := Tryz.zeroValue426
  t228 := Tryz.underlying442
  a228 := Tryz.isAgg442
  z228 := Tryz.sizeOf442
  v228 := Tryz.zeroValue442
  t229 := Tryz.underlying443
  a229 := Tryz.isAgg443
  z229 := Tryz.sizeOf443
  v229 := Tryz.zeroValue443
}
def sortB (L : List ByteArray) : List ByteArray := ((L.map fun s => s.data.toList).mergeSort fun x y => decide (x ≤ y)).map gB
theorem sortB_length (L : List ByteArray) : (sortB L).length = L.length := by simp [sortB]
def sortC : List Value → AHeap → Option (Value × AHeap)
  | [.slice none 0 0], h => some (.tuple #[], h)
  | [.slice (some ⟨b, 0, some 1⟩) len _], h =>
    match h[b]? with
    | some (.row cs true) =>
      match strsOf cs with
      | some L => if L.length = len ∧ len < 1000000 then some (.tuple #[], h.set b (.row (strs (sortB L)) true)) else none
      | none => none
    | _ => none
  | _, _ => none
theorem enc_get (L : List ByteArray) (j : Nat) (hj : j < L.length) : encStr (L.map fun s => s.data.toList).toArray[j]! = .string L[j] := by
  rw [getElem!_pos _ j (by simpa using hj)]
  simp
theorem sort_fnok {args : List Value} {h h' : AHeap} {v : Value} (hr : sortC args h = some (v, h')) {ρ : Rho} {w : World} {args' : Array Value} (H : HRel Tryz.prog.globals.size ρ h w) (ha : LRel ρ args args'.toList) :
    FnOK Tryz.prog Tryz.prog.globals.size ρ h w 141 args' v h' := by
  have one : ∀ {x : Value}, args = [x] → ∃ x', args' = #[x'] ∧ VRel ρ x x' := by
    intro x e
    subst e
    obtain ⟨l⟩ := args'
    simp only at ha
    cases ha with
    | cons hv ht => cases ht; exact ⟨_, rfl, hv⟩
  unfold sortC at hr
  split at hr
  · simp only [Option.some.injEq, Prod.mk.injEq] at hr
    obtain ⟨rfl, rfl⟩ := hr
    obtain ⟨x', rfl, hv⟩ := one rfl
    cases hv
    have hcall := Any.slices_Sort_string_none (ρ := sortRen) sortLays none 0 w
    refine ⟨by kernel_rfl, fun cs => ?_⟩
    obtain ⟨e, w', fr, ⟨rfl, rfl⟩, hst, h1, h2⟩ := hcall cs
    obtain ⟨k1, k2⟩ := H.later (Nat.le_refl _) (fun _ _ => rfl) rfl rfl rfl
    exact ⟨ρ, _, _, fr, .tuple rfl (fun i hi => by simp at hi), k1, k2, hst, h1, h2⟩
  · rename_i b len k
    split at hr
    · rename_i cs hb
      split at hr
      · rename_i L hL
        split at hr
        · rename_i hlen
          obtain ⟨hl, hlen⟩ := hlen
          have hcs := strsOf_spec hL
          subst hcs
          simp only [Option.some.injEq, Prod.mk.injEq] at hr
          obtain ⟨rfl, rfl⟩ := hr
          obtain ⟨x', rfl, hv⟩ := one rfl
          cases hv with
          | slice0 b o sz a k =>
            have : L = [] := List.eq_nil_of_length_eq_zero hl
            subst this
            have hcall := Any.slices_Sort_string_none (ρ := sortRen) sortLays (some a) 0 w
            refine ⟨by kernel_rfl, fun cs => ?_⟩
            obtain ⟨e, w', fr, ⟨rfl, rfl⟩, hst, h1, h2⟩ := hcall cs
            obtain ⟨k1, k2⟩ := H.later (Nat.le_refl _) (fun _ _ => rfl) rfl rfl rfl
            have hs : h.set b (.row (strs (sortB [])) true) = h := by
              have : sortB [] = [] := by simp [sortB]
              rw [this]; exact (set_same hb).symm
            rw [hs]
            exact ⟨ρ, _, _, fr, .tuple rfl (fun i hi => by simp at hi), k1, k2, hst, h1, h2⟩
          | slice hp hle hc hx =>
            rename_i p cap
            obtain ⟨c, t, fz, g1, g2, g3, g4, g5⟩ := H.obj b _ p hb hp
            obtain ⟨g6, g7⟩ := g5 rfl
            have hsl : (strs L).length = L.length := strs_length L
            have hH : Holds encStr w p.blk (p.sh + 0) (L.map fun s => s.data.toList).toArray := by
              intro j hj
              have hj' : j < L.length := by simpa using hj
              rw [enc_get L j hj']
              obtain ⟨v', e1, e2⟩ := g3 j (.string L[j]) (strs_get (List.getElem?_eq_getElem hj'))
              cases e2
              refine ⟨?_, ?_⟩
              · simp only [World.cell?, g1]
                simpa using e1
              · simp only [World.frozen?, g1]
                have := g7 (p.sh + j) (by omega) (by omega)
                rw [Bool.eq_false_iff]
                intro hh
                simp only [Bool.and_eq_true, decide_eq_true_eq] at hh
                apply this
                exact ⟨by omega, by omega⟩
            have hcall := Any.slices_Sort_string (ρ := sortRen) sortLays p.blk (p.sh + 0) cap (L.map fun s => s.data.toList) w hH (H.lt b p hp) (by simp; omega)
            rw [List.length_map, hl] at hcall
            refine ⟨by kernel_rfl, fun cs => ?_⟩
            obtain ⟨e, w', fr, ⟨rfl, n, os, ew⟩, hst, h1, h2⟩ := hcall cs
            obtain ⟨S, eS⟩ : ∃ S, S = (L.map fun s => s.data.toList).mergeSort fun x y => decide (x ≤ y) := ⟨_, rfl⟩
            rw [← eS] at ew
            have hSl : S.length = L.length := by rw [eS]; simp
            have hSB : sortB L = S.map gB := by rw [eS]; rfl
            obtain ⟨w1, e1⟩ : ∃ w1, w1 = putRow encStr (Sort.ahead w n) p.blk (p.sh + 0) S.toArray := ⟨_, rfl⟩
            rw [← e1] at ew
            have hblk := H.lt b p hp
            have hw1 : w1.heap[p.blk]? = some (.cells (putCells encStr (p.sh + 0) S.toArray c) t fz) := by
              rw [e1]
              simp only [putRow, mapBlock, Sort.ahead, Array.getElem?_modify, if_true, g1, Option.map_some, onCells]
            have hoth : ∀ q, q ≠ p.blk → w1.heap[q]? = w.heap[q]? := by
              intro q hq
              rw [e1]
              simp only [putRow, mapBlock, Sort.ahead, Array.getElem?_modify]
              rw [if_neg (fun e => hq e.symm)]
            have hsz : w1.heap.size = w.heap.size := by rw [e1]; simp [putRow, mapBlock, Sort.ahead]
            have hpc : (putCells encStr (p.sh + 0) S.toArray c).size = c.size := by simp [putCells]
            obtain ⟨u1, u2⟩ := H.update (oa' := .row (strs (sortB L)) true) hb rfl hp hsz (by rw [e1]; rfl) (by rw [e1]; rfl) (by rw [e1]; rfl) hoth rfl (by
              refine ⟨_, t, fz, hw1, ?_, fun i v hi => ?_, ?_, fun _ => ⟨?_, g7⟩⟩
              · rw [hpc, strs_length, sortB_length]; rw [hsl] at g2; exact g2
              · rw [hSB] at hi
                have hil : i < S.length := by
                  by_cases hh : i < S.length
                  · exact hh
                  · rw [List.getElem?_eq_none (by simp [strs]; omega)] at hi; simp at hi
                have e3 : (strs (S.map gB))[i]? = some (.string (gB S[i])) := strs_get (by rw [List.getElem?_map, List.getElem?_eq_getElem hil]; rfl)
                rw [e3] at hi
                simp only [Option.some.injEq] at hi
                subst hi
                refine ⟨.string (gB S[i]), ?_, .string _⟩
                have hci : p.sh + i < c.size := by rw [hsl] at g2; omega
                simp only [putCells, Array.getElem?_mapIdx, Array.getElem?_eq_getElem hci, Option.map_some]
                rw [if_pos ⟨by omega, by simp; omega⟩]
                have : p.sh + i - (p.sh + 0) = i := by omega
                rw [this, getElem!_pos _ i (by simpa using hil)]
                simp [gB]
              · rw [strs_length, sortB_length]; rw [hsl] at g4; exact g4
              · rw [hpc]; exact g6)
            have hgs : w1.heap.size ≤ w'.heap.size := by rw [ew]; simp [grow]
            have hgk : ∀ q, q < w1.heap.size → w'.heap[q]? = w1.heap[q]? := by
              intro q hq
              rw [ew]
              simp only [grow]
              rw [Array.getElem?_append_left hq]
            obtain ⟨k1, k2⟩ := u1.later hgs hgk (by rw [ew]; rfl) (by rw [ew]; rfl) (by rw [ew]; rfl)
            exact ⟨ρ, _, w', fr, .tuple rfl (fun i hi => by simp at hi), k1, u2.trans k2, hst, h1, h2⟩
        · simp at hr
      · simp at hr
    · simp at hr
  · simp at hr
end Go.Proofs.YtknpjlcgjlnfbaaGreatDoor

set_option linter.unusedSimpArgs false
set_option linter.unusedVariables false
namespace Go.Proofs.YtknpjlcgjlnfbaaGreatDoor
open Go Go.AM Go.Shelf Go.Sort Go.RowKit Go.Maps

theorem law9 : Keyed Tryz.prog 9 := string_keyed Tryz.underlying9
theorem info9 : (Tryz.prog.info? 9).map (fun i => (i.zero, i.size, i.bytes)) = some (some (.string ⟨#[]⟩), 1, 16) := by kernel_rfl
set_option maxRecDepth 100000 in
theorem bool_inv {H : Type} {v : Value} {y : DataW H × List MemPlace} (h : plainElem Tryz.prog 4 v = some y) : ∃ c, v = Value.bool c := by
  unfold plainElem at h
  rw [Tryz.underlying4] at h
  cases v <;> simp at h
  exact ⟨_, rfl⟩

set_option maxRecDepth 100000 in
set_option maxHeartbeats 4000000 in
theorem sorted_calls {H : Type} (b n : Nat) (D0 : DataW H) (w : World) (hown : w.ownsMap Tryz.prog 9 (plainElem Tryz.prog 4) b n D0) (hmax : Maps.size D0 ≤ 1000000) :
    Calls Tryz.prog 82 #[.map (some b)] w fun e w' => ∃ (v : Value) (ss : List (List UInt8)), e = .returned v ∧ ss.Perm (strKeys D0) ∧ (ss = [] → v = .slice none 0 0) ∧ w'.ownsRow w.heap.size 9 1 v ss.length ((ss.mergeSort (fun x y => decide (x ≤ y))).map encStr) ∧ Below w.heap.size w w' := by
  obtain ⟨i0, hi, hz0, hz1, hz2⟩ := info_parts info9
  have hbl := hown.lt
  go_enter Tryz.func82, Tryz.ntmps82
  go_wp2_with (first
    | (at_range; refine wpList_range_own _ rfl _ 109 rfl 9 4 law9 Tryz.underlying109 _ b n _ rfl hown ?_; intro w0 hrg0 hg0 hs0)
    | go_in)
  go_frame
  go_loopw [3] (fun v wr => ∃ (left : Lit → Bool) (cnt : Nat) (ss : List (List UInt8)), wr.ranges Tryz.prog 9 (plainElem Tryz.prog 4) b w.heap.size n D0 left cnt ∧ ss.length + cnt ≤ Maps.size D0 ∧ (ss = [] → v = .slice none 0 0) ∧
      wr.ownsRow w.heap.size 9 1 v ss.length (ss.map encStr) ∧ Collected D0 left ss ∧ Below w.heap.size w wr)
    (fun _ wr => wr.rangeLeft b w.heap.size)
  case atStart =>
    exact ⟨_, _, [], hrg0, by simp, fun _ => rfl, ⟨rfl, .inl ⟨rfl, rfl⟩⟩, Collected.start D0, (Below.refl _ _).grown hg0 (Nat.le_refl _) (fun j hj => by cases hj)⟩
  case round =>
    obtain ⟨left, cnt, ss, hrg, hcs, hem, hrow, hC, hnx⟩ := hrel
    go_wp2_with (first
      | (at_next; refine wpList_next_ranges _ rfl _ rfl 9 law9 (plainElem Tryz.prog 4) encStr (fun v : Value => v) (fun key kl hk => by obtain ⟨x, hx, _⟩ := Maps.keyOf_str Tryz.underlying9 hk; exact ⟨x, hx⟩) (fun v y hv => ⟨v, rfl⟩) b w.heap.size n _ _ _ rfl hrg ?_ ?_)
      | go_in)
    · intro hc0 hl0
      have hperm := hC.perm hown law9 Tryz.underlying9 hl0
      rcases hrow.2 with ⟨rfl, hnil⟩ | ⟨g, cap, cur, rfl, hbase, hb, h1, h2, h3, h4⟩
      · obtain rfl : ss = [] := List.eq_nil_of_length_eq_zero hnil
        have hc := Any.slices_Sort_string_none (ρ := sortRen) sortLays none 0 wr
        go_wp2_with (go_at_call 141; refine hc.mono ?_; rintro e w' ⟨rfl, rfl⟩)
        go_ret
        exact ⟨_, [], rfl, hperm, fun _ => rfl, ⟨by simp, .inl ⟨rfl, rfl⟩⟩, hnx⟩
      · have hH : Holds encStr wr g 0 ss.toArray := holds_of_block hb (by simpa using h4)
        have hgl : g < wr.heap.size := (Array.getElem?_eq_some_iff.1 hb).1
        have hc := Any.slices_Sort_string (ρ := sortRen) sortLays g 0 cap ss wr hH hgl (by omega)
        go_wp2_with (go_at_call 141; refine hc.mono ?_; rintro e w' ⟨rfl, nn, os, rfl⟩)
        go_ret
        exact ⟨_, ss, rfl, hperm, hem, ownsRow_sorted (by simp) hbase hb h1 h2 h3, hnx.grown (grownBy_sorted _) hnx.size (fun j hj => by cases hj; exact hbase)⟩
    · intro x c kl yd yp w2 cnt2 hkey hlk hv hat hrg2 hlt hg2 hs2 hen
      obtain ⟨x', ex, rfl, _⟩ := Maps.keyOf_str Tryz.underlying9 hkey
      obtain rfl : x = x' := encStr_inj ex
      have hrow2 := hrow.kept hg2 (Or.inr (row_ne_iter hrow hrg).symm)
      clear hs2
      go_wp2_with (first
        | (at_builtin; refine wpList_append_own _ rfl _ _ 43 rfl w.heap.size 9 i0 (.string ⟨#[]⟩) 1 16 Tryz.underlying43 hi hz0 hz1 hz2 rfl (by decide) _ _ _ rfl (hrow2.alloc _) ⟨w2.heap.size, 0, none⟩ 1 1 [encStr x] rfl rfl (cell_one_new _ _ _) (by simp [Value.oneCell', encStr]) (by unfold maxLen at *; omega) (by omega) (by have := hnx.size; have := hg2.size; simp; omega) ?_; intro v' w3 hown' hg3 hnil3; go_frame)
        | go_in)
      have hrg3 := (hrg2.alloc _).kept hg3 (row_ne_low hrow2 hbl) (row_ne_iter hrow2 hrg2)
      go_roundw
      case rel =>
        refine ⟨_, cnt2, ss ++ [x], hrg3, by simp; omega, fun e => by simp at e, by simpa using hown', hC.step hlk hat, ?_⟩
        exact ((hnx.grown hg2 hnx.size (fun j hj => by cases hj; exact Nat.le_refl _)).alloc (by have := hnx.size; have := hg2.size; omega) _).grown hg3 (by have := hnx.size; have := hg2.size; simp; omega) (fun j hj => (hrow2.lt j hj).1)
      case measure => rw [hrg3.left_eq, hrg.left_eq]; exact hlt
end Go.Proofs.YtknpjlcgjlnfbaaGreatDoor

set_option linter.unusedSimpArgs false
set_option linter.unusedVariables false
set_option maxRecDepth 100000
namespace Go.AM
variable {G : Nat} {ρ : Rho} {h : AHeap} {w w' : World}
/-- A new object at a place that is new in the world. -/
theorem HRel.fresh (H : HRel G ρ h w) (hs : w.heap.size ≤ w'.heap.size) (hk : ∀ c, c < w.heap.size → w'.heap[c]? = w.heap[c]?) (ht : w'.tape = w.tape) (hos : w'.os = w.os) (hou : w'.output = w.output)
    {oa : AObj} {g sh en : Nat} (hg : w.heap.size ≤ g) (hg2 : g < w'.heap.size) (hobj : ObjRel G (upd ρ h.length ⟨g, sh, en⟩) w' ⟨g, sh, en⟩ oa) :
    HRel G (upd ρ h.length ⟨g, sh, en⟩) (h ++ [oa]) w' ∧ Fr ρ h w (upd ρ h.length ⟨g, sh, en⟩) (h ++ [oa]) w' := by
  have hle := H.updLe ⟨g, sh, en⟩
  have hold : ∀ {b : Nat} {p : Pl}, b < h.length → upd ρ h.length ⟨g, sh, en⟩ b = some p → ρ b = some p := by
    intro b p hb hp; rw [upd_ne _ (by omega)] at hp; exact hp
  refine ⟨⟨?_, ?_, ?_, ?_, ?_, ?_, ?_, ?_⟩, ⟨hle, hs, ht, hos, hou, ?_, ?_, ?_⟩⟩
  · intro b o hb ho
    rcases get_append hb with ⟨hl, hb⟩ | ⟨rfl, rfl⟩
    · obtain ⟨p, hp⟩ := H.dom b o hb ho; exact ⟨p, hle b p hp⟩
    · exact ⟨_, upd_same _ _ _⟩
  · intro b o p hb hp
    rcases get_append hb with ⟨hl, hb⟩ | ⟨rfl, rfl⟩
    · have hp' := hold hl hp
      exact (H.obj b o p hb hp').mono hle (fun _ => hk _ (H.lt b p hp'))
    · rw [upd_same] at hp; simp only [Option.some.injEq] at hp; subst hp; exact hobj
  · intro b p hp
    by_cases hb : b = h.length
    · subst hb; rw [upd_same] at hp; simp only [Option.some.injEq] at hp; subst hp; exact hg2
    · rw [upd_ne _ hb] at hp; have := H.lt b p hp; omega
  · intro b p hp
    by_cases hb : b = h.length
    · subst hb; simp
    · rw [upd_ne _ hb] at hp; have := H.bd b p hp; simp; omega
  · intro b b' o o' p p' hne hb hb' hp hp' ho ho'
    rcases get_append hb with ⟨hl, hb⟩ | ⟨rfl, rfl⟩ <;> rcases get_append hb' with ⟨hl', hb'⟩ | ⟨rfl, rfl⟩
    · exact H.sep b b' o o' p p' hne hb hb' (hold hl hp) (hold hl' hp') ho ho'
    · rw [upd_same] at hp'; simp only [Option.some.injEq] at hp'; subst hp'
      have := H.lt b p (hold hl hp); simp; omega
    · rw [upd_same] at hp; simp only [Option.some.injEq] at hp; subst hp
      have := H.lt b' p' (hold hl' hp'); simp; omega
    · exact absurd rfl hne
  · intro g hg; obtain ⟨en, he⟩ := H.glob g hg; exact ⟨en, hle _ _ he⟩
  · intro b o p hb hp ho
    rcases get_append hb with ⟨hl, hb⟩ | ⟨rfl, rfl⟩
    · exact H.gown b o p hb (hold hl hp) ho
    · rw [upd_same] at hp; simp only [Option.some.injEq] at hp; subst hp; exact Nat.le_trans H.gsz hg
  · exact Nat.le_trans H.gsz hs
  · intro b o p hb ho hp hlt
    rcases get_append hb with ⟨hl, hb⟩ | ⟨rfl, rfl⟩
    · exact ⟨b, o, p, hb, ho, hold hl hp, rfl⟩
    · rw [upd_same] at hp; simp only [Option.some.injEq] at hp; subst hp; exact absurd hlt (by simp; omega)
  · intro b o p hb ho hp hlt
    rcases get_append hb with ⟨hl, hb⟩ | ⟨rfl, rfl⟩
    · exact ⟨b, o, p, hb, ho, hold hl hp, rfl⟩
    · rw [upd_same] at hp; simp only [Option.some.injEq] at hp; subst hp; exact absurd hlt (by simp; omega)
  · intro c hc _; exact hk c hc
end Go.AM
namespace Go.Proofs.YtknpjlcgjlnfbaaGreatDoor
open Go Go.AM Go.Shelf Go.Sort Go.Maps

/-- The words of a code, as its map holds them. -/
def codeE (W : List ByteArray) : List (Value × Value) := W.map fun s => (.string s, .bool true)
def wordsOf : List (Value × Value) → Option (List ByteArray)
  | [] => some []
  | (.string s, .bool true) :: r => (wordsOf r).map (s :: ·)
  | _ => none
theorem wordsOf_spec : ∀ {es : List (Value × Value)} {L : List ByteArray}, wordsOf es = some L → es = codeE L := by
  intro es
  induction es with
  | nil => intro L h; simp only [wordsOf, Option.some.injEq] at h; subst h; rfl
  | cons a r ih =>
    intro L h
    unfold wordsOf at h
    split at h
    · simp at *
    · rename_i s r' he
      simp only [List.cons.injEq] at he
      obtain ⟨rfl, rfl⟩ := he
      simp only [Option.map_eq_some_iff] at h
      obtain ⟨l, hl, rfl⟩ := h
      rw [ih hl]; rfl
    · simp at h
theorem wordsOf_code : ∀ (L : List ByteArray), wordsOf (codeE L) = some L := by
  intro L
  induction L with
  | nil => rfl
  | cons s L ih =>
    have : codeE (s :: L) = (.string s, .bool true) :: codeE L := rfl
    rw [this]
    simp only [wordsOf, ih, Option.map_some]
def dupB : List ByteArray → Bool
  | [] => false
  | a :: r => r.any (fun b => a.data.toList == b.data.toList) || dupB r
theorem dupB_spec : ∀ {L : List ByteArray}, dupB L = false → L.Nodup := by
  intro L
  induction L with
  | nil => intro _; exact List.nodup_nil
  | cons a r ih =>
    intro h
    simp only [dupB, Bool.or_eq_false_iff] at h
    refine List.nodup_cons.2 ⟨fun hm => ?_, ih h.2⟩
    have := h.1
    rw [List.any_eq_false] at this
    exact this a hm (by simp)
def sortedC : List Value → AHeap → Option (Value × AHeap)
  | [.map (some b)], h => match h[b]? with
    | some (.amap es) => match wordsOf es with
      | some L => if L.length < 100000 ∧ dupB L = false ∧ (L.all fun s => decide (s.size ≤ 1000000)) = true then (if L = [] then some (.slice none 0 0, h) else some (.slice (some ⟨h.length, 0, some 1⟩) L.length (L.length + 1), h ++ [.row (strs (sortB L)) true])) else none
      | none => none
    | _ => none
  | _, _ => none
theorem str_rel {ρ : Rho} {s : ByteArray} {v : Value} (h : VRel ρ (.string s) v) : v = .string s := by cases h; rfl
theorem bool_rel {ρ : Rho} {b : Bool} {v : Value} (h : VRel ρ (.bool b) v) : v = .bool b := by cases h; rfl
theorem code_keys {ρ : Rho} : ∀ {L : List ByteArray} {es' : List MapEntry}, ERel ρ (codeE L) es' → es'.map (·.key) = L.map Value.string ∧ ∀ x ∈ es', x.val = .bool true := by
  intro L
  induction L with
  | nil => intro es' h; cases h; exact ⟨rfl, fun x hx => by simp at hx⟩
  | cons s L ih =>
    intro es' h
    have hc : codeE (s :: L) = (.string s, .bool true) :: codeE L := rfl
    rw [hc] at h
    cases h with
    | cons hk hv ht =>
      obtain ⟨h1, h2⟩ := ih ht
      refine ⟨by simp [h1, str_rel hk], fun x hx => ?_⟩
      rcases List.mem_cons.1 hx with rfl | hx
      · exact bool_rel hv
      · exact h2 x hx
theorem rd_code {x : MapEntry} {s : ByteArray} (hk : x.key = .string s) (hv : x.val = .bool true) (hs : s.size ≤ 1000000) : Go.WideElems.rd (H := Unit) Tryz.prog 9 (plainElem Tryz.prog 4) x = some (Lit.string s.data.toList, .lit (.bool true)) := by
  unfold Go.WideElems.rd
  rw [hk, hv, plainElem_bool Tryz.underlying4]
  have : keyOf Tryz.prog 9 (Value.string s) = some (Lit.string s.data.toList) := by
    simp only [keyOf, Tryz.underlying9, mapKey]
    rw [if_pos (by unfold maxLen; omega)]
  rw [this]; rfl
theorem rg_code {es' : List MapEntry} : ∀ {L : List ByteArray}, es'.map (·.key) = L.map Value.string → (∀ x ∈ es', x.val = .bool true) → (∀ s ∈ L, s.size ≤ 1000000) → es'.map (Go.WideElems.rg (H := Unit) Tryz.prog 9 (plainElem Tryz.prog 4)) = L.map fun s => (Lit.string s.data.toList, .lit (.bool true)) := by
  induction es' with
  | nil => intro L h _ _; cases L with
    | nil => rfl
    | cons => simp at h
  | cons x es' ih =>
    intro L h hv hs
    cases L with
    | nil => simp at h
    | cons s L =>
      simp only [List.map_cons, List.cons.injEq] at h ⊢
      refine ⟨?_, ih h.2 (fun x hx => hv x (by simp [hx])) (fun s hx => hs s (by simp [hx]))⟩
      unfold Go.WideElems.rg
      rw [rd_code h.1 (hv x (by simp)) (hs s (by simp))]; rfl
theorem sorted_fnok {args : List Value} {h h' : AHeap} {v : Value} (hr : sortedC args h = some (v, h')) {ρ : Rho} {w : World} {args' : Array Value} (H : HRel GN ρ h w) (ha : LRel ρ args args'.toList) : FnOK Tryz.prog GN ρ h w 82 args' v h' := by
  unfold sortedC at hr
  split at hr
  · rename_i b
    split at hr
    · rename_i es hb
      split at hr
      · rename_i L hL
        split at hr
        · rename_i hc
          obtain ⟨c1, c2, c3⟩ := hc
          have hes := wordsOf_spec hL
          subst hes
          obtain ⟨x', rfl, hx⟩ := one_arg ha
          cases hx with
          | map hp =>
            rename_i p
            obtain ⟨es', clock, g1, g2, g3⟩ := H.obj b _ _ hb hp
            obtain ⟨k1, k2⟩ := code_keys g2
            have hnd := dupB_spec c2
            have hsz : ∀ s ∈ L, s.size ≤ 1000000 := fun s hs => by have := List.all_eq_true.1 c3 s hs; simpa using this
            have hlen : es'.size = L.length := by have := congrArg List.length k1; simpa using this
            have hrg := rg_code k1 k2 hsz
            have hstr : Function.Injective Value.string := fun a b e => by injection e
            have F : Go.WideElems.Fit (H := Unit) Tryz.prog 9 (plainElem Tryz.prog 4) es' clock := by
              refine ⟨by rw [hlen]; unfold maxLen; omega, ⟨fun x hx => g3.2 x hx, g3.1, ?_⟩, fun x hx => ?_⟩
              · rw [k1]; exact hnd.map _ (fun a b hne e => hne (hstr e))
              · have : x.key ∈ es'.toList.map (·.key) := List.mem_map.2 ⟨x, hx, rfl⟩
                rw [k1] at this
                obtain ⟨s, hs, e⟩ := List.mem_map.1 this
                exact ⟨_, rd_code e.symm (k2 x hx) (hsz s hs)⟩
            have hown : w.ownsMap (H := Unit) Tryz.prog 9 (plainElem Tryz.prog 4) p.blk es'.size (.map ((es'.toList.map (Go.WideElems.rg Tryz.prog 9 (plainElem Tryz.prog 4))).foldr DataW.insert [])) := ⟨es', clock, g1, F, Nat.le_refl _, rfl⟩
            have hD : Maps.size (H := Unit) (.map ((es'.toList.map (Go.WideElems.rg Tryz.prog 9 (plainElem Tryz.prog 4))).foldr DataW.insert [])) ≤ 1000000 := by
              show (List.foldr DataW.insert [] _).length ≤ 1000000
              rw [(WideShapes.sorted_perm _).length_eq, List.length_map, Array.length_toList, hlen]; omega
            have hcall := sorted_calls p.blk es'.size _ w hown hD
            have hpm : (strKeys (H := Unit) (.map ((es'.toList.map (Go.WideElems.rg Tryz.prog 9 (plainElem Tryz.prog 4))).foldr DataW.insert []))).Perm (L.map fun s => s.data.toList) := by
              show (List.map _ _).Perm _
              refine ((WideShapes.sorted_perm _).map _).trans ?_
              rw [hrg, List.map_map]
              exact List.Perm.refl _
            generalize strKeys (H := Unit) _ = KS at hcall hpm
            refine ⟨by kernel_rfl, fun cs => ?_⟩
            obtain ⟨e, w', fr, ⟨v0, ss, rfl, hp2, hem, hrow, hB⟩, hst, q1, q2⟩ := hcall cs
            have hperm := hp2.trans hpm
            have hms := mergeSort_of_perm hperm
            have hlen2 : ss.length = L.length := by have := hperm.length_eq; simpa using this
            by_cases hL0 : L = []
            · rw [if_pos hL0] at hr
              simp only [Option.some.injEq, Prod.mk.injEq] at hr
              obtain ⟨rfl, rfl⟩ := hr
              have hs0 : ss = [] := List.eq_nil_of_length_eq_zero (by rw [hlen2, hL0]; rfl)
              obtain ⟨u1, u2⟩ := H.later hB.size hB.block hB.tape hB.os hB.output
              refine ⟨ρ, v0, w', fr, ?_, u1, u2, hst, q1, q2⟩
              rw [hem hs0]; exact .nilslice
            · rw [if_neg hL0] at hr
              simp only [Option.some.injEq, Prod.mk.injEq] at hr
              obtain ⟨rfl, rfl⟩ := hr
              have hpos : 0 < ss.length := by rw [hlen2]; exact List.length_pos_iff.2 hL0
              rcases hrow.2 with ⟨_, hz⟩ | ⟨g, cap, cur, rfl, hbase, hg, h1, h2, h3, h4⟩
              · omega
              · have hSl : (sortB L).length = L.length := sortB_length L
                have hgl : g < w'.heap.size := (Array.getElem?_eq_some_iff.1 hg).1
                obtain ⟨u1, u2⟩ := H.fresh hB.size hB.block hB.tape hB.os hB.output (oa := .row (strs (sortB L)) true) (g := g) (sh := 0) (en := cap) hbase hgl (by
                  refine ⟨cur, 9, (0, 0), hg, ?_, fun i v hi => ?_, ?_, fun _ => ⟨by simp only; omega, fun o _ _ hh => by simp at hh⟩⟩
                  · rw [strs_length, hSl]; simp only; omega
                  · have h5 : (cur.toList.take (ss.length * 1)) = strs (sortB L) := by
                      rw [h4]
                      have : sortB L = (ss.mergeSort fun x y => decide (x ≤ y)).map gB := by unfold sortB; rw [← hms]
                      rw [this]
                      simp only [strs, List.map_map]
                      exact List.map_congr_left fun x _ => rfl
                    rw [← h5] at hi
                    refine ⟨v, ?_, ?_⟩
                    · have hil : i < ss.length * 1 := by
                        by_cases hh : i < ss.length * 1
                        · exact hh
                        · rw [List.getElem?_eq_none (by rw [List.length_take]; omega)] at hi; simp at hi
                      rw [List.getElem?_take_of_lt hil] at hi
                      simpa using hi
                    · rw [h5] at hi
                      simp only [strs, List.getElem?_map, Option.map_eq_some_iff] at hi
                      obtain ⟨x, _, rfl⟩ := hi
                      exact .string _
                  · rw [strs_length, hSl]; simp only; omega)
                refine ⟨_, _, w', fr, ?_, u1, u2, hst, q1, q2⟩
                have := VRel.slice (ρ := upd ρ h.length ⟨g, 0, cap⟩) (b := h.length) (o := 0) (p := ⟨g, 0, cap⟩) (sz := 1) (len := L.length) (k := L.length + 1) (cap := cap) (upd_same _ _ _) (by omega) (by simp) (fun e => by omega)
                rw [hlen2]; exact this
        · simp at hr
      · simp at hr
    · simp at hr
  · simp at hr
end Go.Proofs.YtknpjlcgjlnfbaaGreatDoor

set_option linter.unusedSimpArgs false
set_option linter.unusedVariables false
set_option maxRecDepth 100000
namespace Go.Proofs.YtknpjlcgjlnfbaaGreatDoor
open Go Go.AM Go.Shelf

def clnRen : Ren := ⟨fun | 5 => 377 | 7 => 379 | n => n, fun | 23 => 109 | 25 => 9 | 3 => 4 | 4 => 4 | 20 => 20 | n => n, fun n => n⟩
theorem clnLays : SlLaysW.n5 Tryz.prog clnRen := {
  mixed := by kernel_rfl
  f5 := ⟨"maps.Clone[map[string]bool,string,bool]", of_decide_eq_true (by kernel_rfl), Tryz.func377.trans (congrArg some (by kernel_rfl))⟩
  f7 := Tryz.func379.trans (congrArg some (by kernel_rfl))
  t4 := Tryz.underlying4
  a4 := Tryz.isAgg4
  z4 := Tryz.sizeOf4
  v4 := Tryz.zeroValue4
  t20 := Tryz.underlying20
  a20 := Tryz.isAgg20
  z20 := Tryz.sizeOf20
  v20 := Tryz.zeroValue20
  t23 := Tryz.underlying109
  a23 := Tryz.isAgg109
  z23 := Tryz.sizeOf109
  v23 := Tryz.zeroValue109
}
def cloneC : List Value → AHeap → Option (Value × AHeap)
  | [.map (some b)], h => match h[b]? with
    | some (.amap es) => some (.map (some h.length), h ++ [.amap es])
    | _ => none
  | _, _ => none
theorem clone_fnok {args : List Value} {h h' : AHeap} {v : Value} (hr : cloneC args h = some (v, h')) {ρ : Rho} {w : World} {args' : Array Value} (H : HRel GN ρ h w) (ha : LRel ρ args args'.toList) : FnOK Tryz.prog GN ρ h w 377 args' v h' := by
  unfold cloneC at hr
  split at hr
  · rename_i b
    split at hr
    · rename_i es hb
      simp only [Option.some.injEq, Prod.mk.injEq] at hr
      obtain ⟨rfl, rfl⟩ := hr
      obtain ⟨x', rfl, hx⟩ := one_arg ha
      cases hx with
      | map hp =>
        obtain ⟨es', clock, g1, g2, g3⟩ := H.obj b _ _ hb hp
        have hcall := AnyW.maps_Clone clnLays _ es' clock w g1
        refine ⟨by kernel_rfl, fun cs => ?_⟩
        obtain ⟨e, w', fr, ⟨rfl, rfl⟩, hst, h1, h2⟩ := hcall cs
        obtain ⟨k1, k2⟩ := H.alloc (oc := .map es' clock) (oa := .amap es) (sh := 0) (en := 0) ⟨es', clock, heap_push_new _ _, g2.mono (H.updLe _), g3⟩
        exact ⟨_, _, _, fr, .map (p := ⟨w.heap.size, 0, 0⟩) (upd_same _ _ _), k1, k2, hst, h1, h2⟩
    · simp at hr
  · simp at hr
end Go.Proofs.YtknpjlcgjlnfbaaGreatDoor

set_option linter.unusedSimpArgs false
set_option linter.unusedVariables false
set_option maxRecDepth 100000
namespace Go.Proofs.YtknpjlcgjlnfbaaGreatDoor
open Go Go.AM Go.AMT

def AXM : Ext := fun f => bif Nat.beq f 82 then some sortedC else bif Nat.beq f 377 then some cloneC else AXL f
theorem AXM_ok {W : World} (Y : YW W) : ExtOK Tryz.prog W AXM := by
  intro f c hc args h v h' hr ρ w args' H K ha
  unfold AXM at hc
  cases h1 : Nat.beq f 82 with
  | true => obtain rfl := Nat.eq_of_beq_eq_true h1; rw [h1] at hc; simp only [cond_true, Option.some.injEq] at hc; subst hc; exact sorted_fnok hr H ha
  | false =>
  rw [h1] at hc; simp only [cond_false] at hc
  cases h2 : Nat.beq f 377 with
  | true => obtain rfl := Nat.eq_of_beq_eq_true h2; rw [h2] at hc; simp only [cond_true, Option.some.injEq] at hc; subst hc; exact clone_fnok hr H ha
  | false =>
  rw [h2] at hc; simp only [cond_false] at hc
  exact AXL_ok Y f c hc args h v h' hr ρ w args' H K ha
/-- A sort for the kernel. -/
def insB (a : List UInt8) : List (List UInt8) → List (List UInt8)
  | [] => [a]
  | b :: r => bif decide (a ≤ b) then a :: b :: r else b :: insB a r
def sortI : List (List UInt8) → List (List UInt8)
  | [] => []
  | a :: r => insB a (sortI r)
theorem insB_perm (a : List UInt8) : ∀ r, (insB a r).Perm (a :: r)
  | [] => .refl _
  | b :: r => by
    unfold insB
    cases decide (a ≤ b) with
    | true => exact .refl _
    | false => exact ((insB_perm a r).cons b).trans (.swap a b r)
theorem sortI_perm : ∀ l, (sortI l).Perm l
  | [] => .refl _
  | a :: r => (insB_perm a _).trans ((sortI_perm r).cons a)
theorem insB_sorted (a : List UInt8) : ∀ r, r.Pairwise (fun x y => leB x y = true) → (insB a r).Pairwise (fun x y => leB x y = true)
  | [], _ => by simp [insB]
  | b :: r, h => by
    have tr : ∀ {a b c : List UInt8}, leB a b = true → leB b c = true → leB a c = true := fun h1 h2 => by simp only [leB, decide_eq_true_eq] at *; exact List.le_trans h1 h2
    have hp := List.pairwise_cons.1 h
    unfold insB
    cases hd : decide (a ≤ b) with
    | true => exact List.pairwise_cons.2 ⟨fun c hc => by rcases List.mem_cons.1 hc with rfl | hc; exact hd; exact tr hd (hp.1 c hc), h⟩
    | false =>
      refine List.pairwise_cons.2 ⟨fun c hc => ?_, insB_sorted a r hp.2⟩
      rcases List.mem_cons.1 ((insB_perm a r).mem_iff.1 hc) with rfl | hc
      · rw [decide_eq_false_iff_not] at hd
        rcases List.le_total c b with q | q
        · exact absurd q hd
        · simpa [leB] using q
      · exact hp.1 c hc
theorem sortI_sorted : ∀ l, (sortI l).Pairwise (fun x y => leB x y = true)
  | [] => .nil
  | a :: r => insB_sorted a _ (sortI_sorted r)
theorem sortI_eq (l : List (List UInt8)) : l.mergeSort leB = sortI l := by
  have tr : ∀ a b c : List UInt8, leB a b = true → leB b c = true → leB a c = true := fun a b c h1 h2 => by simp only [leB, decide_eq_true_eq] at *; exact List.le_trans h1 h2
  have to : ∀ a b : List UInt8, (leB a b || leB b a) = true := fun a b => by simp only [leB, Bool.or_eq_true, decide_eq_true_eq]; exact List.le_total a b
  refine List.Perm.eq_of_pairwise (le := fun a b => leB a b = true) (fun a b _ _ h1 h2 => ?_) (List.pairwise_mergeSort tr to l) (sortI_sorted l) ((List.mergeSort_perm l leB).trans (sortI_perm l).symm)
  simp only [leB, decide_eq_true_eq] at h1 h2
  exact List.le_antisymm h1 h2
theorem sortB_eq (L : List ByteArray) : sortB L = (sortI (L.map fun s => s.data.toList)).map gB := by unfold sortB; rw [← sortI_eq]
noncomputable def cloneCT : List Value → TH → Option (Value × TH)
  | [.map (some b)], h => match h.get b with
    | some (.amap es) => some (.map (some h.len), h.push (.amap es))
    | _ => none
  | _, _ => none
noncomputable def sortedCT : List Value → TH → Option (Value × TH)
  | [.map (some b)], h => match h.get b with
    | some (.amap es) => match wordsOf es with
      | some L => if L.length < 100000 ∧ dupB L = false ∧ (L.all fun s => decide (s.size ≤ 1000000)) = true then (match L with | [] => some (.slice none 0 0, h) | _ => some (.slice (some ⟨h.len, 0, some 1⟩) L.length (L.length + 1), h.push (.row (strs ((sortI (L.map fun s => s.data.toList)).map gB)) true))) else none
      | none => none
    | _ => none
  | _, _ => none
noncomputable def AXMT : ExtT := fun f => bif Nat.beq f 82 then some sortedCT else bif Nat.beq f 377 then some cloneCT else AXLT f
theorem cloneCT_ok (args : List Value) (th : TH) (v : Value) (th' : TH) (h : cloneCT args th = some (v, th')) : cloneC args th.toL = some (v, th'.toL) := by
  unfold cloneCT at h
  split at h
  · rename_i b
    split at h
    · rename_i es hb
      simp only [Option.some.injEq, Prod.mk.injEq] at h
      obtain ⟨rfl, rfl⟩ := h
      have : th.toL[b]? = some (.amap es) := by rw [TH.toL_get]; exact hb
      unfold cloneC
      simp only [this, TH.toL_push, TH.toL_length]
    · simp at h
  · simp at h
theorem sortedCT_ok (args : List Value) (th : TH) (v : Value) (th' : TH) (h : sortedCT args th = some (v, th')) : sortedC args th.toL = some (v, th'.toL) := by
  unfold sortedCT at h
  split at h
  · rename_i b
    split at h
    · rename_i es hb
      split at h
      · rename_i L hL
        split at h
        · rename_i hc
          have : th.toL[b]? = some (.amap es) := by rw [TH.toL_get]; exact hb
          unfold sortedC
          simp only [this, hL]
          rw [if_pos hc]
          split at h
          · simp only [Option.some.injEq, Prod.mk.injEq] at h
            obtain ⟨rfl, rfl⟩ := h
            rw [if_pos rfl]
          · rename_i hne
            simp only [Option.some.injEq, Prod.mk.injEq] at h
            obtain ⟨rfl, rfl⟩ := h
            rw [if_neg hne, sortB_eq, TH.toL_push, TH.toL_length]
        · simp at h
      · simp at h
    · simp at h
  · simp at h
theorem AXMT_ok : ExtTOK AXMT AXM := by
  intro f
  unfold AXMT AXM
  cases h1 : Nat.beq f 82 with
  | true => exact ⟨sortedC, rfl, sortedCT_ok⟩
  | false =>
  cases h2 : Nat.beq f 377 with
  | true => exact ⟨cloneC, rfl, cloneCT_ok⟩
  | false => exact AXLT_ok f
end Go.Proofs.YtknpjlcgjlnfbaaGreatDoor
