/-
  slices.Sort of strings, by the library's proved contract.
-/
import Derived.Test.YtpbmpdocgplhpaaDoorMD
import Derived.Test.YtpbmpdocgplhpaaDoorVc13
import Derived.Shelf.Sort.Plain
import Derived.Shelf.Slices.In.SortNone
set_option linter.unusedSimpArgs false
set_option linter.unusedVariables false
set_option maxRecDepth 100000
namespace Go.Proofs.YtpbmpdocgplhpaaDoor
open Go Go.AM Go.Shelf Go.Sort

def sortRen : Ren := ⟨fun | 125 => 92 | 128 => 109 | 129 => 110 | 190 => 78 | 258 => 91 | 302 => 100 | 303 => 101 | 304 => 102 | 305 => 103 | 306 => 104 | 307 => 105 | 308 => 106 | 309 => 107 | 310 => 108 | 329 => 125 | 330 => 126 | 333 => 124 | 334 => 127 | 335 => 128 | 336 => 129 | 344 => 138 | n => n, fun | 0 => 0 | 3 => 3 | 4 => 4 | 5 => 5 | 9 => 9 | 31 => 22 | 46 => 33 | 51 => 131 | 53 => 133 | 131 => 96 | 182 => 124 | 183 => 125 | 218 => 141 | 222 => 145 | 228 => 153 | 229 => 34 | n => n, fun n => n⟩
theorem sortLays : Lays.n190 Tryd.prog sortRen := {
  mixed := by kernel_rfl
  f125 := Tryd.func92.trans (congrArg some (by kernel_rfl))
  f128 := Tryd.func109.trans (congrArg some (by kernel_rfl))
  f129 := Tryd.func110.trans (congrArg some (by kernel_rfl))
  f190 := Tryd.func78.trans (congrArg some (by kernel_rfl))
  f258 := Tryd.func91.trans (congrArg some (by kernel_rfl))
  f302 := Tryd.func100.trans (congrArg some (by kernel_rfl))
  f303 := Tryd.func101.trans (congrArg some (by kernel_rfl))
  f304 := Tryd.func102.trans (congrArg some (by kernel_rfl))
  f305 := Tryd.func103.trans (congrArg some (by kernel_rfl))
  f306 := Tryd.func104.trans (congrArg some (by kernel_rfl))
  f307 := Tryd.func105.trans (congrArg some (by kernel_rfl))
  f308 := Tryd.func106.trans (congrArg some (by kernel_rfl))
  f309 := Tryd.func107.trans (congrArg some (by kernel_rfl))
  f310 := Tryd.func108.trans (congrArg some (by kernel_rfl))
  f329 := Tryd.func125.trans (congrArg some (by kernel_rfl))
  f330 := Tryd.func126.trans (congrArg some (by kernel_rfl))
  f333 := Tryd.func124.trans (congrArg some (by kernel_rfl))
  f334 := Tryd.func127.trans (congrArg some (by kernel_rfl))
  f335 := Tryd.func128.trans (congrArg some (by kernel_rfl))
  f336 := Tryd.func129.trans (congrArg some (by kernel_rfl))
  f344 := Tryd.func138.trans (congrArg some (by kernel_rfl))
  t0 := Tryd.underlying0
  a0 := Tryd.isAgg0
  z0 := Tryd.sizeOf0
  v0 := Tryd.zeroValue0
  t3 := Tryd.underlying3
  a3 := Tryd.isAgg3
  z3 := Tryd.sizeOf3
  v3 := Tryd.zeroValue3
  t4 := Tryd.underlying4
  a4 := Tryd.isAgg4
  z4 := Tryd.sizeOf4
  v4 := Tryd.zeroValue4
  t5 := Tryd.underlying5
  a5 := Tryd.isAgg5
  z5 := Tryd.sizeOf5
  v5 := Tryd.zeroValue5
  t9 := Tryd.underlying9
  a9 := Tryd.isAgg9
  z9 := Tryd.sizeOf9
  v9 := Tryd.zeroValue9
  t31 := Tryd.underlying22
  a31 := Tryd.isAgg22
  z31 := Tryd.sizeOf22
  v31 := Tryd.zeroValue22
  t46 := Tryd.underlying33
  a46 := Tryd.isAgg33
  z46 := Tryd.sizeOf33
  v46 := Tryd.zeroValue33
  t51 := Tryd.underlying131
  a51 := Tryd.isAgg131
  z51 := Tryd.sizeOf131
  v51 := Tryd.zeroValue131
  t53 := Tryd.underlying133
  a53 := Tryd.isAgg133
  z53 := Tryd.sizeOf133
  v53 := Tryd.zeroValue133
  t131 := Tryd.underlying96
  a131 := Tryd.isAgg96
  z131 := Tryd.sizeOf96
  v131 := Tryd.zeroValue96
  t182 := Tryd.underlying124
  a182 := Tryd.isAgg124
  z182 := Tryd.sizeOf124
  v182 := Tryd.zeroValue124
  t183 := Tryd.underlying125
  a183 := Tryd.isAgg125
  z183 := Tryd.sizeOf125
  v183 := Tryd.zeroValue125
  t218 := Tryd.underlying141
  a218 := Tryd.isAgg141
  z218 := Tryd.sizeOf141
  v218 := Tryd.zeroValue141
  t222 := Tryd.underlying145
  a222 := Tryd.isAgg145
  z222 := Tryd.sizeOf145
  v222 := Tryd.zeroValue145
  t228 := Tryd.underlying153
  a228 := Tryd.isAgg153
  z228 := Tryd.sizeOf153
  v228 := Tryd.zeroValue153
  t229 := Tryd.underlying34
  a229 := Tryd.isAgg34
  z229 := Tryd.sizeOf34
  v229 := Tryd.zeroValue34
}

def sortB (L : List ByteArray) : List ByteArray := ((L.map fun s => s.data.toList).mergeSort fun x y => decide (x ≤ y)).map gB
theorem sortB_length (L : List ByteArray) : (sortB L).length = L.length := by simp [sortB]
def strsOf : List Value → Option (List ByteArray)
  | [] => some []
  | .string s :: r => (strsOf r).map (s :: ·)
  | _ => none
theorem strsOf_spec : ∀ {cs : List Value} {L : List ByteArray}, strsOf cs = some L → cs = strs L := by
  intro cs
  induction cs with
  | nil => intro L h; simp only [strsOf, Option.some.injEq] at h; subst h; rfl
  | cons v cs ih =>
    intro L h
    cases v with
    | string s =>
      simp only [strsOf, Option.map_eq_some_iff] at h
      obtain ⟨l, hl, rfl⟩ := h
      rw [ih hl]; rfl
    | _ => simp [strsOf] at h
theorem strsOf_strs : ∀ (L : List ByteArray), strsOf (strs L) = some L := by
  intro L
  induction L with
  | nil => rfl
  | cons s L ih => 
    have : strs (s :: L) = .string s :: strs L := rfl
    rw [this]
    simp only [strsOf, ih, Option.map_some]
def sortC : List Value → AHeap → Option (Value × AHeap)
  | [.slice none 0 0], h => some (.tuple #[], h)
  | [.slice (some ⟨b, 0, some 1⟩) len _], h =>
    match h[b]? with
    | some (.row cs true) =>
      match strsOf cs with
      | some L => if L.length = len ∧ len < 1000000 then some (.tuple #[], h.set b (.row (strs (sortB L)) true)) else none
      | none => none
    | _ => none
  | _, _ => none
theorem sortC_kp {args : List Value} {h h' : AHeap} {v : Value} (hr : sortC args h = some (v, h')) : Kp h h' := by
  unfold sortC at hr
  split at hr
  · simp only [Option.some.injEq, Prod.mk.injEq] at hr; rw [← hr.2]; exact Kp.refl _
  · split at hr
    · rename_i cs hb
      split at hr
      · split at hr
        · simp only [Option.some.injEq, Prod.mk.injEq] at hr; rw [← hr.2]; exact Kp.set hb (fun cs => by simp)
        · simp at hr
      · simp at hr
    · simp at hr
  · simp at hr

theorem enc_get (L : List ByteArray) (j : Nat) (hj : j < L.length) : encStr (L.map fun s => s.data.toList).toArray[j]! = .string L[j] := by
  rw [getElem!_pos _ j (by simpa using hj)]
  simp
theorem sort_fnok {args : List Value} {h h' : AHeap} {v : Value} (hr : sortC args h = some (v, h')) {ρ : Rho} {w : World} {args' : Array Value} (H : HRel Tryd.prog.globals.size ρ h w) (ha : LRel ρ args args'.toList) :
    FnOK Tryd.prog Tryd.prog.globals.size ρ h w 78 args' v h' := by
  have one : ∀ {x : Value}, args = [x] → ∃ x', args' = #[x'] ∧ VRel ρ x x' := by
    intro x e
    subst e
    obtain ⟨l⟩ := args'
    simp only at ha
    cases ha with
    | cons hv ht => cases ht; exact ⟨_, rfl, hv⟩
  unfold sortC at hr
  split at hr
  · simp only [Option.some.injEq, Prod.mk.injEq] at hr
    obtain ⟨rfl, rfl⟩ := hr
    obtain ⟨x', rfl, hv⟩ := one rfl
    cases hv
    have hcall := Any.slices_Sort_string_none (ρ := sortRen) sortLays none 0 w
    refine ⟨by kernel_rfl, fun cs => ?_⟩
    obtain ⟨e, w', fr, ⟨rfl, rfl⟩, hst, h1, h2⟩ := hcall cs
    obtain ⟨k1, k2⟩ := H.later (Nat.le_refl _) (fun _ _ => rfl) rfl rfl rfl
    exact ⟨ρ, _, _, fr, .tuple rfl (fun i hi => by simp at hi), k1, k2, hst, h1, h2⟩
  · rename_i b len k
    split at hr
    · rename_i cs hb
      split at hr
      · rename_i L hL
        split at hr
        · rename_i hlen
          obtain ⟨hl, hlen⟩ := hlen
          have hcs := strsOf_spec hL
          subst hcs
          simp only [Option.some.injEq, Prod.mk.injEq] at hr
          obtain ⟨rfl, rfl⟩ := hr
          obtain ⟨x', rfl, hv⟩ := one rfl
          cases hv with
          | slice0 b o sz a k =>
            have : L = [] := List.eq_nil_of_length_eq_zero hl
            subst this
            have hcall := Any.slices_Sort_string_none (ρ := sortRen) sortLays (some a) 0 w
            refine ⟨by kernel_rfl, fun cs => ?_⟩
            obtain ⟨e, w', fr, ⟨rfl, rfl⟩, hst, h1, h2⟩ := hcall cs
            obtain ⟨k1, k2⟩ := H.later (Nat.le_refl _) (fun _ _ => rfl) rfl rfl rfl
            have hs : h.set b (.row (strs (sortB [])) true) = h := by
              have : sortB [] = [] := by simp [sortB]
              rw [this]; exact (set_same hb).symm
            rw [hs]
            exact ⟨ρ, _, _, fr, .tuple rfl (fun i hi => by simp at hi), k1, k2, hst, h1, h2⟩
          | slice hp hle hc hx =>
            rename_i p cap
            obtain ⟨c, t, fz, g1, g2, g3, g4, g5⟩ := H.obj b _ p hb hp
            obtain ⟨g6, g7⟩ := g5 rfl
            have hsl : (strs L).length = L.length := strs_length L
            have hH : Holds encStr w p.blk (p.sh + 0) (L.map fun s => s.data.toList).toArray := by
              intro j hj
              have hj' : j < L.length := by simpa using hj
              rw [enc_get L j hj']
              obtain ⟨v', e1, e2⟩ := g3 j (.string L[j]) (strs_get (List.getElem?_eq_getElem hj'))
              cases e2
              refine ⟨?_, ?_⟩
              · simp only [World.cell?, g1]
                simpa using e1
              · simp only [World.frozen?, g1]
                have := g7 (p.sh + j) (by omega) (by omega)
                rw [Bool.eq_false_iff]
                intro hh
                simp only [Bool.and_eq_true, decide_eq_true_eq] at hh
                apply this
                exact ⟨by omega, by omega⟩
            have hcall := Any.slices_Sort_string (ρ := sortRen) sortLays p.blk (p.sh + 0) cap (L.map fun s => s.data.toList) w hH (H.lt b p hp) (by simp; omega)
            rw [List.length_map, hl] at hcall
            refine ⟨by kernel_rfl, fun cs => ?_⟩
            obtain ⟨e, w', fr, ⟨rfl, n, os, ew⟩, hst, h1, h2⟩ := hcall cs
            obtain ⟨S, eS⟩ : ∃ S, S = (L.map fun s => s.data.toList).mergeSort fun x y => decide (x ≤ y) := ⟨_, rfl⟩
            rw [← eS] at ew
            have hSl : S.length = L.length := by rw [eS]; simp
            have hSB : sortB L = S.map gB := by rw [eS]; rfl
            obtain ⟨w1, e1⟩ : ∃ w1, w1 = putRow encStr (Sort.ahead w n) p.blk (p.sh + 0) S.toArray := ⟨_, rfl⟩
            rw [← e1] at ew
            have hblk := H.lt b p hp
            have hw1 : w1.heap[p.blk]? = some (.cells (putCells encStr (p.sh + 0) S.toArray c) t fz) := by
              rw [e1]
              simp only [putRow, mapBlock, Sort.ahead, Array.getElem?_modify, if_true, g1, Option.map_some, onCells]
            have hoth : ∀ q, q ≠ p.blk → w1.heap[q]? = w.heap[q]? := by
              intro q hq
              rw [e1]
              simp only [putRow, mapBlock, Sort.ahead, Array.getElem?_modify]
              rw [if_neg (fun e => hq e.symm)]
            have hsz : w1.heap.size = w.heap.size := by rw [e1]; simp [putRow, mapBlock, Sort.ahead]
            have hpc : (putCells encStr (p.sh + 0) S.toArray c).size = c.size := by simp [putCells]
            obtain ⟨u1, u2⟩ := H.update (oa' := .row (strs (sortB L)) true) hb rfl hp hsz (by rw [e1]; rfl) (by rw [e1]; rfl) (by rw [e1]; rfl) hoth rfl (by
              refine ⟨_, t, fz, hw1, ?_, fun i v hi => ?_, ?_, fun _ => ⟨?_, g7⟩⟩
              · rw [hpc, strs_length, sortB_length]; rw [hsl] at g2; exact g2
              · rw [hSB] at hi
                have hil : i < S.length := by
                  by_cases hh : i < S.length
                  · exact hh
                  · rw [List.getElem?_eq_none (by simp [strs]; omega)] at hi; simp at hi
                have e3 : (strs (S.map gB))[i]? = some (.string (gB S[i])) := strs_get (by rw [List.getElem?_map, List.getElem?_eq_getElem hil]; rfl)
                rw [e3] at hi
                simp only [Option.some.injEq] at hi
                subst hi
                refine ⟨.string (gB S[i]), ?_, .string _⟩
                have hci : p.sh + i < c.size := by rw [hsl] at g2; omega
                simp only [putCells, Array.getElem?_mapIdx, Array.getElem?_eq_getElem hci, Option.map_some]
                rw [if_pos ⟨by omega, by simp; omega⟩]
                have : p.sh + i - (p.sh + 0) = i := by omega
                rw [this, getElem!_pos _ i (by simpa using hil)]
                simp [gB]
              · rw [strs_length, sortB_length]; rw [hsl] at g4; exact g4
              · rw [hpc]; exact g6)
            have hgs : w1.heap.size ≤ w'.heap.size := by rw [ew]; simp [grow]
            have hgk : ∀ q, q < w1.heap.size → w'.heap[q]? = w1.heap[q]? := by
              intro q hq
              rw [ew]
              simp only [grow]
              rw [Array.getElem?_append_left hq]
            obtain ⟨k1, k2⟩ := u1.later hgs hgk (by rw [ew]; rfl) (by rw [ew]; rfl) (by rw [ew]; rfl)
            exact ⟨ρ, _, w', fr, .tuple rfl (fun i hi => by simp at hi), k1, u2.trans k2, hst, h1, h2⟩
        · simp at hr
      · simp at hr
    · simp at hr
  · simp at hr
end Go.Proofs.YtpbmpdocgplhpaaDoor
