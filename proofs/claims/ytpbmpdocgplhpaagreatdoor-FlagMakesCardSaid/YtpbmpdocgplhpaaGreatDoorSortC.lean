/-
  slices.Sort of strings, by the library's proved contract.
-/
import Derived.Test.YtpbmpdocgplhpaaGreatDoorMD
import Derived.Test.YtpbmpdocgplhpaaGreatDoorVc13
import Derived.Shelf.Sort.Plain
import Derived.Shelf.Slices.In.SortNone
set_option linter.unusedSimpArgs false
set_option linter.unusedVariables false
set_option maxRecDepth 100000
namespace Go.Proofs.YtpbmpdocgplhpaaGreatDoor
open Go Go.AM Go.Shelf Go.Sort

def sortRen : Ren := ⟨fun | 125 => 100 | 128 => 147 | 129 => 148 | 190 => 63 | 258 => 99 | 302 => 138 | 303 => 139 | 304 => 140 | 305 => 141 | 306 => 142 | 307 => 143 | 308 => 144 | 309 => 145 | 310 => 146 | 329 => 170 | 330 => 171 | 333 => 169 | 334 => 172 | 335 => 173 | 336 => 174 | 344 => 182 | n => n, fun | 0 => 0 | 3 => 3 | 4 => 4 | 5 => 5 | 9 => 9 | 31 => 27 | 46 => 59 | 51 => 193 | 53 => 195 | 131 => 135 | 182 => 185 | 183 => 186 | 218 => 204 | 222 => 208 | 228 => 216 | 229 => 45 | n => n, fun n => n⟩
theorem sortLays : Lays.n190 Tryz.prog sortRen := {
  mixed := by kernel_rfl
  f125 := Tryz.func100.trans (congrArg some (by kernel_rfl))
  f128 := Tryz.func147.trans (congrArg some (by kernel_rfl))
  f129 := Tryz.func148.trans (congrArg some (by kernel_rfl))
  f190 := Tryz.func63.trans (congrArg some (by kernel_rfl))
  f258 := Tryz.func99.trans (congrArg some (by kernel_rfl))
  f302 := Tryz.func138.trans (congrArg some (by kernel_rfl))
  f303 := Tryz.func139.trans (congrArg some (by kernel_rfl))
  f304 := Tryz.func140.trans (congrArg some (by kernel_rfl))
  f305 := Tryz.func141.trans (congrArg some (by kernel_rfl))
  f306 := Tryz.func142.trans (congrArg some (by kernel_rfl))
  f307 := Tryz.func143.trans (congrArg some (by kernel_rfl))
  f308 := Tryz.func144.trans (congrArg some (by kernel_rfl))
  f309 := Tryz.func145.trans (congrArg some (by kernel_rfl))
  f310 := Tryz.func146.trans (congrArg some (by kernel_rfl))
  f329 := Tryz.func170.trans (congrArg some (by kernel_rfl))
  f330 := Tryz.func171.trans (congrArg some (by kernel_rfl))
  f333 := Tryz.func169.trans (congrArg some (by kernel_rfl))
  f334 := Tryz.func172.trans (congrArg some (by kernel_rfl))
  f335 := Tryz.func173.trans (congrArg some (by kernel_rfl))
  f336 := Tryz.func174.trans (congrArg some (by kernel_rfl))
  f344 := Tryz.func182.trans (congrArg some (by kernel_rfl))
  t0 := Tryz.underlying0
  a0 := Tryz.isAgg0
  z0 := Tryz.sizeOf0
  v0 := Tryz.zeroValue0
  t3 := Tryz.underlying3
  a3 := Tryz.isAgg3
  z3 := Tryz.sizeOf3
  v3 := Tryz.zeroValue3
  t4 := Tryz.underlying4
  a4 := Tryz.isAgg4
  z4 := Tryz.sizeOf4
  v4 := Tryz.zeroValue4
  t5 := Tryz.underlying5
  a5 := Tryz.isAgg5
  z5 := Tryz.sizeOf5
  v5 := Tryz.zeroValue5
  t9 := Tryz.underlying9
  a9 := Tryz.isAgg9
  z9 := Tryz.sizeOf9
  v9 := Tryz.zeroValue9
  t31 := Tryz.underlying27
  a31 := Tryz.isAgg27
  z31 := Tryz.sizeOf27
  v31 := Tryz.zeroValue27
  t46 := Tryz.underlying59
  a46 := Tryz.isAgg59
  z46 := Tryz.sizeOf59
  v46 := Tryz.zeroValue59
  t51 := Tryz.underlying193
  a51 := Tryz.isAgg193
  z51 := Tryz.sizeOf193
  v51 := Tryz.zeroValue193
  t53 := Tryz.underlying195
  a53 := Tryz.isAgg195
  z53 := Tryz.sizeOf195
  v53 := Tryz.zeroValue195
  t131 := Tryz.underlying135
  a131 := Tryz.isAgg135
  z131 := Tryz.sizeOf135
  v131 := Tryz.zeroValue135
  t182 := Tryz.underlying185
  a182 := Tryz.isAgg185
  z182 := Tryz.sizeOf185
  v182 := Tryz.zeroValue185
  t183 := Tryz.underlying186
  a183 := Tryz.isAgg186
  z183 := Tryz.sizeOf186
  v183 := Tryz.zeroValue186
  t218 := Tryz.underlying204
  a218 := Tryz.isAgg204
  z218 := Tryz.sizeOf204
  v218 := Tryz.zeroValue204
  t222 := Tryz.underlying208
  a222 := Tryz.isAgg208
  z222 := Tryz.sizeOf208
  v222 := Tryz.zeroValue208
  t228 := Tryz.underlying216
  a228 := Tryz.isAgg216
  z228 := Tryz.sizeOf216
  v228 := Tryz.zeroValue216
  t229 := Tryz.underlying45
  a229 := Tryz.isAgg45
  z229 := Tryz.sizeOf45
  v229 := Tryz.zeroValue45
}

def sortB (L : List ByteArray) : List ByteArray := ((L.map fun s => s.data.toList).mergeSort fun x y => decide (x ≤ y)).map gB
theorem sortB_length (L : List ByteArray) : (sortB L).length = L.length := by simp [sortB]
def strsOf : List Value → Option (List ByteArray)
  | [] => some []
  | .string s :: r => (strsOf r).map (s :: ·)
  | _ => none
theorem strsOf_spec : ∀ {cs : List Value} {L : List ByteArray}, strsOf cs = some L → cs = strs L := by
  intro cs
  induction cs with
  | nil => intro L h; simp only [strsOf, Option.some.injEq] at h; subst h; rfl
  | cons v cs ih =>
    intro L h
    cases v with
    | string s =>
      simp only [strsOf, Option.map_eq_some_iff] at h
      obtain ⟨l, hl, rfl⟩ := h
      rw [ih hl]; rfl
    | _ => simp [strsOf] at h
theorem strsOf_strs : ∀ (L : List ByteArray), strsOf (strs L) = some L := by
  intro L
  induction L with
  | nil => rfl
  | cons s L ih => 
    have : strs (s :: L) = .string s :: strs L := rfl
    rw [this]
    simp only [strsOf, ih, Option.map_some]
def sortC : List Value → AHeap → Option (Value × AHeap)
  | [.slice none 0 0], h => some (.tuple #[], h)
  | [.slice (some ⟨b, 0, some 1⟩) len _], h =>
    match h[b]? with
    | some (.row cs true) =>
      match strsOf cs with
      | some L => if L.length = len ∧ len < 1000000 then some (.tuple #[], h.set b (.row (strs (sortB L)) true)) else none
      | none => none
    | _ => none
  | _, _ => none
theorem enc_get (L : List ByteArray) (j : Nat) (hj : j < L.length) : encStr (L.map fun s => s.data.toList).toArray[j]! = .string L[j] := by
  rw [getElem!_pos _ j (by simpa using hj)]
  simp
theorem sort_fnok {args : List Value} {h h' : AHeap} {v : Value} (hr : sortC args h = some (v, h')) {ρ : Rho} {w : World} {args' : Array Value} (H : HRel Tryz.prog.globals.size ρ h w) (ha : LRel ρ args args'.toList) :
    FnOK Tryz.prog Tryz.prog.globals.size ρ h w 63 args' v h' := by
  have one : ∀ {x : Value}, args = [x] → ∃ x', args' = #[x'] ∧ VRel ρ x x' := by
    intro x e
    subst e
    obtain ⟨l⟩ := args'
    simp only at ha
    cases ha with
    | cons hv ht => cases ht; exact ⟨_, rfl, hv⟩
  unfold sortC at hr
  split at hr
  · simp only [Option.some.injEq, Prod.mk.injEq] at hr
    obtain ⟨rfl, rfl⟩ := hr
    obtain ⟨x', rfl, hv⟩ := one rfl
    cases hv
    have hcall := Any.slices_Sort_string_none (ρ := sortRen) sortLays none 0 w
    refine ⟨by kernel_rfl, fun cs => ?_⟩
    obtain ⟨e, w', fr, ⟨rfl, rfl⟩, hst, h1, h2⟩ := hcall cs
    obtain ⟨k1, k2⟩ := H.later (Nat.le_refl _) (fun _ _ => rfl) rfl rfl rfl
    exact ⟨ρ, _, _, fr, .tuple rfl (fun i hi => by simp at hi), k1, k2, hst, h1, h2⟩
  · rename_i b len k
    split at hr
    · rename_i cs hb
      split at hr
      · rename_i L hL
        split at hr
        · rename_i hlen
          obtain ⟨hl, hlen⟩ := hlen
          have hcs := strsOf_spec hL
          subst hcs
          simp only [Option.some.injEq, Prod.mk.injEq] at hr
          obtain ⟨rfl, rfl⟩ := hr
          obtain ⟨x', rfl, hv⟩ := one rfl
          cases hv with
          | slice0 b o sz a k =>
            have : L = [] := List.eq_nil_of_length_eq_zero hl
            subst this
            have hcall := Any.slices_Sort_string_none (ρ := sortRen) sortLays (some a) 0 w
            refine ⟨by kernel_rfl, fun cs => ?_⟩
            obtain ⟨e, w', fr, ⟨rfl, rfl⟩, hst, h1, h2⟩ := hcall cs
            obtain ⟨k1, k2⟩ := H.later (Nat.le_refl _) (fun _ _ => rfl) rfl rfl rfl
            have hs : h.set b (.row (strs (sortB [])) true) = h := by
              have : sortB [] = [] := by simp [sortB]
              rw [this]; exact (set_same hb).symm
            rw [hs]
            exact ⟨ρ, _, _, fr, .tuple rfl (fun i hi => by simp at hi), k1, k2, hst, h1, h2⟩
          | slice hp hle hc hx =>
            rename_i p cap
            obtain ⟨c, t, fz, g1, g2, g3, g4, g5⟩ := H.obj b _ p hb hp
            obtain ⟨g6, g7⟩ := g5 rfl
            have hsl : (strs L).length = L.length := strs_length L
            have hH : Holds encStr w p.blk (p.sh + 0) (L.map fun s => s.data.toList).toArray := by
              intro j hj
              have hj' : j < L.length := by simpa using hj
              rw [enc_get L j hj']
              obtain ⟨v', e1, e2⟩ := g3 j (.string L[j]) (strs_get (List.getElem?_eq_getElem hj'))
              cases e2
              refine ⟨?_, ?_⟩
              · simp only [World.cell?, g1]
                simpa using e1
              · simp only [World.frozen?, g1]
                have := g7 (p.sh + j) (by omega) (by omega)
                rw [Bool.eq_false_iff]
                intro hh
                simp only [Bool.and_eq_true, decide_eq_true_eq] at hh
                apply this
                exact ⟨by omega, by omega⟩
            have hcall := Any.slices_Sort_string (ρ := sortRen) sortLays p.blk (p.sh + 0) cap (L.map fun s => s.data.toList) w hH (H.lt b p hp) (by simp; omega)
            rw [List.length_map, hl] at hcall
            refine ⟨by kernel_rfl, fun cs => ?_⟩
            obtain ⟨e, w', fr, ⟨rfl, n, os, ew⟩, hst, h1, h2⟩ := hcall cs
            obtain ⟨S, eS⟩ : ∃ S, S = (L.map fun s => s.data.toList).mergeSort fun x y => decide (x ≤ y) := ⟨_, rfl⟩
            rw [← eS] at ew
            have hSl : S.length = L.length := by rw [eS]; simp
            have hSB : sortB L = S.map gB := by rw [eS]; rfl
            obtain ⟨w1, e1⟩ : ∃ w1, w1 = putRow encStr (Sort.ahead w n) p.blk (p.sh + 0) S.toArray := ⟨_, rfl⟩
            rw [← e1] at ew
            have hblk := H.lt b p hp
            have hw1 : w1.heap[p.blk]? = some (.cells (putCells encStr (p.sh + 0) S.toArray c) t fz) := by
              rw [e1]
              simp only [putRow, mapBlock, Sort.ahead, Array.getElem?_modify, if_true, g1, Option.map_some, onCells]
            have hoth : ∀ q, q ≠ p.blk → w1.heap[q]? = w.heap[q]? := by
              intro q hq
              rw [e1]
              simp only [putRow, mapBlock, Sort.ahead, Array.getElem?_modify]
              rw [if_neg (fun e => hq e.symm)]
            have hsz : w1.heap.size = w.heap.size := by rw [e1]; simp [putRow, mapBlock, Sort.ahead]
            have hpc : (putCells encStr (p.sh + 0) S.toArray c).size = c.size := by simp [putCells]
            obtain ⟨u1, u2⟩ := H.update (oa' := .row (strs (sortB L)) true) hb rfl hp hsz (by rw [e1]; rfl) (by rw [e1]; rfl) (by rw [e1]; rfl) hoth rfl (by
              refine ⟨_, t, fz, hw1, ?_, fun i v hi => ?_, ?_, fun _ => ⟨?_, g7⟩⟩
              · rw [hpc, strs_length, sortB_length]; rw [hsl] at g2; exact g2
              · rw [hSB] at hi
                have hil : i < S.length := by
                  by_cases hh : i < S.length
                  · exact hh
                  · rw [List.getElem?_eq_none (by simp [strs]; omega)] at hi; simp at hi
                have e3 : (strs (S.map gB))[i]? = some (.string (gB S[i])) := strs_get (by rw [List.getElem?_map, List.getElem?_eq_getElem hil]; rfl)
                rw [e3] at hi
                simp only [Option.some.injEq] at hi
                subst hi
                refine ⟨.string (gB S[i]), ?_, .string _⟩
                have hci : p.sh + i < c.size := by rw [hsl] at g2; omega
                simp only [putCells, Array.getElem?_mapIdx, Array.getElem?_eq_getElem hci, Option.map_some]
                rw [if_pos ⟨by omega, by simp; omega⟩]
                have : p.sh + i - (p.sh + 0) = i := by omega
                rw [this, getElem!_pos _ i (by simpa using hil)]
                simp [gB]
              · rw [strs_length, sortB_length]; rw [hsl] at g4; exact g4
              · rw [hpc]; exact g6)
            have hgs : w1.heap.size ≤ w'.heap.size := by rw [ew]; simp [grow]
            have hgk : ∀ q, q < w1.heap.size → w'.heap[q]? = w1.heap[q]? := by
              intro q hq
              rw [ew]
              simp only [grow]
              rw [Array.getElem?_append_left hq]
            obtain ⟨k1, k2⟩ := u1.later hgs hgk (by rw [ew]; rfl) (by rw [ew]; rfl) (by rw [ew]; rfl)
            exact ⟨ρ, _, w', fr, .tuple rfl (fun i hi => by simp at hi), k1, u2.trans k2, hst, h1, h2⟩
        · simp at hr
      · simp at hr
    · simp at hr
  · simp at hr
end Go.Proofs.YtpbmpdocgplhpaaGreatDoor
