/-
  strings.Split with an empty separator and strings.Join with an empty separator, by the library's proved contracts.
-/
import Derived.Test.YtpbmpdocgplhpaaGreatDoorChos2
import Derived.Shelf.Strings.Explode
import Derived.Shelf.Strings.OnBuilder
set_option linter.unusedSimpArgs false
set_option linter.unusedVariables false
set_option maxRecDepth 100000
namespace Go.Proofs.YtpbmpdocgplhpaaGreatDoor
open Go Go.AM Go.Shelf

def splitRen : Ren := ⟨fun | 146 => 73 | 221 => 111 | 268 => 153 | 138 => 154 | 143 => 155 | 195 => 177 | 197 => 150 | 218 => 178 | 219 => 179 | 260 => 175 | 217 => 187 | 225 => 186 | 224 => 185 | 267 => 188 | 266 => 189 | 314 => 190 | n => n, fun | 9 => 9 | 31 => 27 | 3 => 3 | 4 => 4 | 0 => 0 | 105 => 182 | 21 => 21 | 5 => 5 | 46 => 59 | 119 => 218 | 139 => 221 | 138 => 220 | 146 => 224 | 51 => 193 | n => n, fun | 1 => 5 | 3 => 3 | 4 => 4 | n => n⟩
theorem splitLays : Lays.n146 Tryz.prog splitRen := {
  mixed := by kernel_rfl
  f138 := Tryz.func154.trans (congrArg some (by kernel_rfl))
  f143 := Tryz.func155.trans (congrArg some (by kernel_rfl))
  f146 := Tryz.func73.trans (congrArg some (by kernel_rfl))
  f195 := Tryz.func177.trans (congrArg some (by kernel_rfl))
  f197 := Tryz.func150.trans (congrArg some (by kernel_rfl))
  f217 := Tryz.func187.trans (congrArg some (by kernel_rfl))
  f218 := Tryz.func178.trans (congrArg some (by kernel_rfl))
  f219 := Tryz.func179.trans (congrArg some (by kernel_rfl))
  f221 := Tryz.func111.trans (congrArg some (by kernel_rfl))
  f224 := Tryz.func185.trans (congrArg some (by kernel_rfl))
  f225 := Tryz.func186.trans (congrArg some (by kernel_rfl))
  f260 := Tryz.func175.trans (congrArg some (by kernel_rfl))
  f266 := Tryz.func189.trans (congrArg some (by kernel_rfl))
  f267 := Tryz.func188.trans (congrArg some (by kernel_rfl))
  f268 := Tryz.func153.trans (congrArg some (by kernel_rfl))
  f314 := Tryz.func190.trans (congrArg some (by kernel_rfl))
  t0 := Tryz.underlying0
  a0 := Tryz.isAgg0
  z0 := Tryz.sizeOf0
  v0 := Tryz.zeroValue0
  t3 := Tryz.underlying3
  a3 := Tryz.isAgg3
  z3 := Tryz.sizeOf3
  v3 := Tryz.zeroValue3
  t4 := Tryz.underlying4
  a4 := Tryz.isAgg4
  z4 := Tryz.sizeOf4
  v4 := Tryz.zeroValue4
  t5 := Tryz.underlying5
  a5 := Tryz.isAgg5
  z5 := Tryz.sizeOf5
  v5 := Tryz.zeroValue5
  t9 := Tryz.underlying9
  a9 := Tryz.isAgg9
  z9 := Tryz.sizeOf9
  v9 := Tryz.zeroValue9
  t21 := Tryz.underlying21
  a21 := Tryz.isAgg21
  z21 := Tryz.sizeOf21
  v21 := Tryz.zeroValue21
  t31 := Tryz.underlying27
  a31 := Tryz.isAgg27
  z31 := Tryz.sizeOf27
  v31 := Tryz.zeroValue27
  t46 := Tryz.underlying59
  a46 := Tryz.isAgg59
  z46 := Tryz.sizeOf59
  v46 := Tryz.zeroValue59
  t51 := Tryz.underlying193
  a51 := Tryz.isAgg193
  z51 := Tryz.sizeOf193
  v51 := Tryz.zeroValue193
  t105 := Tryz.underlying182
  a105 := Tryz.isAgg182
  z105 := Tryz.sizeOf182
  v105 := Tryz.zeroValue182
  t119 := Tryz.underlying218
  a119 := Tryz.isAgg218
  z119 := Tryz.sizeOf218
  t138 := Tryz.underlying220
  a138 := Tryz.isAgg220
  z138 := Tryz.sizeOf220
  v138 := Tryz.zeroValue220
  t139 := Tryz.underlying221
  a139 := Tryz.isAgg221
  z139 := Tryz.sizeOf221
  v139 := Tryz.zeroValue221
  t146 := Tryz.underlying224
  a146 := Tryz.isAgg224
  z146 := Tryz.sizeOf224
  v146 := Tryz.zeroValue224
  g1 := by kernel_rfl
  g3 := by kernel_rfl
  g4 := by kernel_rfl
}
def joinRen : Ren := ⟨fun | 156 => 78 | 165 => 114 | 166 => 115 | 169 => 69 | 240 => 108 | 241 => 159 | 276 => 152 | 277 => 181 | n => n, fun | 31 => 27 | 9 => 9 | 3 => 3 | 4 => 4 | 0 => 0 | 20 => 20 | 72 => 109 | 76 => 160 | 70 => 106 | 37 => 107 | 75 => 111 | 127 => 154 | 164 => 197 | 5 => 5 | 80 => 113 | n => n, fun n => n⟩
theorem joinLays : Lays.n156 Tryz.prog joinRen := {
  mixed := by kernel_rfl
  f156 := Tryz.func78.trans (congrArg some (by kernel_rfl))
  f165 := Tryz.func114.trans (congrArg some (by kernel_rfl))
  f166 := Tryz.func115.trans (congrArg some (by kernel_rfl))
  f169 := Tryz.func69.trans (congrArg some (by kernel_rfl))
  f240 := Tryz.func108.trans (congrArg some (by kernel_rfl))
  f241 := Tryz.func159.trans (congrArg some (by kernel_rfl))
  f276 := Tryz.func152.trans (congrArg some (by kernel_rfl))
  f277 := Tryz.func181.trans (congrArg some (by kernel_rfl))
  t0 := Tryz.underlying0
  a0 := Tryz.isAgg0
  z0 := Tryz.sizeOf0
  v0 := Tryz.zeroValue0
  t3 := Tryz.underlying3
  a3 := Tryz.isAgg3
  z3 := Tryz.sizeOf3
  v3 := Tryz.zeroValue3
  t4 := Tryz.underlying4
  a4 := Tryz.isAgg4
  z4 := Tryz.sizeOf4
  v4 := Tryz.zeroValue4
  t9 := Tryz.underlying9
  a9 := Tryz.isAgg9
  z9 := Tryz.sizeOf9
  v9 := Tryz.zeroValue9
  t20 := Tryz.underlying20
  a20 := Tryz.isAgg20
  z20 := Tryz.sizeOf20
  v20 := Tryz.zeroValue20
  t31 := Tryz.underlying27
  a31 := Tryz.isAgg27
  z31 := Tryz.sizeOf27
  v31 := Tryz.zeroValue27
  t37 := Tryz.underlying107
  a37 := Tryz.isAgg107
  z37 := Tryz.sizeOf107
  v37 := Tryz.zeroValue107
  t70 := Tryz.underlying106
  a70 := Tryz.isAgg106
  z70 := Tryz.sizeOf106
  v70 := Tryz.zeroValue106
  t72 := Tryz.underlying109
  a72 := Tryz.isAgg109
  z72 := Tryz.sizeOf109
  v72 := Tryz.zeroValue109
  t75 := Tryz.underlying111
  a75 := Tryz.isAgg111
  z75 := Tryz.sizeOf111
  v75 := Tryz.zeroValue111
  t76 := Tryz.underlying160
  a76 := Tryz.isAgg160
  z76 := Tryz.sizeOf160
  v76 := Tryz.zeroValue160
  t127 := Tryz.underlying154
  a127 := Tryz.isAgg154
  z127 := Tryz.sizeOf154
  v127 := Tryz.zeroValue154
  t164 := Tryz.underlying197
  a164 := Tryz.isAgg197
  z164 := Tryz.sizeOf197
  v164 := Tryz.zeroValue197
}

theorem joinExtra : Builder.Extra Tryz.prog joinRen where
  sizeBuilder := by kernel_rfl
  liesBuilder := by kernel_rfl
  t5 := Tryz.underlying5
  a5 := Tryz.isAgg5
  z5 := Tryz.sizeOf5
  v5 := Tryz.zeroValue5
  infoByte := by kernel_rfl
  cellsByte := by kernel_rfl
  sizeByte := by kernel_rfl
  neB5 := by decide

theorem two_args {ρ : Rho} {x y : Value} {args' : Array Value} (ha : LRel ρ [x, y] args'.toList) : ∃ x' y', args' = #[x', y'] ∧ VRel ρ x x' ∧ VRel ρ y y' := by
  obtain ⟨l⟩ := args'
  simp only at ha
  cases ha with
  | cons hv ht => cases ht with
    | cons hv2 ht2 => cases ht2; exact ⟨_, _, rfl, hv, hv2⟩

theorem split_fnok {args : List Value} {h h' : AHeap} {v : Value} (hr : splitC args h = some (v, h')) {ρ : Rho} {w : World} {args' : Array Value} (H : HRel Tryz.prog.globals.size ρ h w) (ha : LRel ρ args args'.toList) :
    FnOK Tryz.prog Tryz.prog.globals.size ρ h w 73 args' v h' := by
  unfold splitC at hr
  split at hr
  · rename_i s sep
    split at hr
    · rename_i hc
      obtain ⟨h0, has, hsz⟩ := hc
      simp only [Option.some.injEq, Prod.mk.injEq] at hr
      obtain ⟨rfl, rfl⟩ := hr
      obtain ⟨x', y', rfl, hx, hy⟩ := two_args ha
      cases hx
      cases hy
      have hascii : ∀ (j : Nat) b, s.data.toList[j]? = some b → b.toNat < 128 := by
        intro j b hj
        have := List.all_eq_true.1 has b (List.mem_of_getElem? hj)
        simpa using this
      have hcall := Any.strings_Split_chars (ρ := splitRen) splitLays (by kernel_rfl) s sep w h0 (by omega) hascii
      refine ⟨by kernel_rfl, fun cs => ?_⟩
      obtain ⟨e, w', fr, ⟨rfl, rfl⟩, hst, h1, h2⟩ := hcall cs
      have hcl : (strs (Lib.charsB s)).length = s.size := by rw [strs_length]; simp [Lib.charsB, Lib.charsUpTo]
      obtain ⟨j1, j2⟩ := H.junk (.stringIter s s.size)
      obtain ⟨k1, k2⟩ := j1.alloc (oc := .cells ((Lib.charsB s).map Value.string).toArray 9) (oa := .row (strs (Lib.charsB s)) true) (sh := 0) (en := s.size) (by
        refine ⟨_, _, _, heap_alloc_new _ _, ?_, fun i v hi => ?_, ?_, fun _ => ⟨?_, ?_⟩⟩
        · rw [hcl]; simp [Lib.charsB, Lib.charsUpTo]
        · have : ∃ x, (Lib.charsB s)[i]? = some x ∧ v = .string x := by
            simp only [strs, List.getElem?_map, Option.map_eq_some_iff] at hi
            obtain ⟨x, hx, rfl⟩ := hi
            exact ⟨x, hx, rfl⟩
          obtain ⟨x, hx, rfl⟩ := this
          exact ⟨.string x, by simp [hx], .string _⟩
        · rw [hcl]; simp
        · simp [Lib.charsB, Lib.charsUpTo]
        · intro o h1 h2 h3; simp at h3)
      refine ⟨_, _, _, fr, ?_, k1, j2.trans k2, hst, h1, h2⟩
      exact .slice (p := ⟨(w.alloc (.stringIter s s.size)).heap.size, 0, s.size⟩) (upd_same _ _ _) (Nat.le_refl _) (by simp) (fun _ => rfl)
    · simp at hr
  · simp at hr

theorem join_fnok {args : List Value} {h h' : AHeap} {v : Value} (hr : joinC args h = some (v, h')) {ρ : Rho} {w : World} {args' : Array Value} (H : HRel Tryz.prog.globals.size ρ h w) (ha : LRel ρ args args'.toList) :
    FnOK Tryz.prog Tryz.prog.globals.size ρ h w 78 args' v h' := by
  unfold joinC at hr
  split at hr
  · rename_i b o len k sep
    split at hr
    · rename_i cs hld
      split at hr
      · rename_i L hL
        split at hr
        · rename_i hc
          obtain ⟨h0, hj, hlen⟩ := hc
          have hcs := strsOf_spec hL
          subst hcs
          simp only [Option.some.injEq, Prod.mk.injEq] at hr
          obtain ⟨rfl, rfl⟩ := hr
          obtain ⟨x', y', rfl, hx, hy⟩ := two_args ha
          cases hy
          have hsep : sep = ⟨#[]⟩ := by
            obtain ⟨⟨l⟩⟩ := sep
            have : l = [] := List.eq_nil_of_length_eq_zero h0
            rw [this]
          subst hsep
          unfold loadN at hld
          split at hld
          · rename_i cs hcs
            split at hld
            · rename_i hle
              simp only [Option.some.injEq] at hld
              have hLl : L.length = len := by
                have := congrArg List.length hld
                rw [strs_length] at this
                simp at this
                omega
              cases hx with
              | slice0 b o sz a k =>
                have hL0 : L = [] := List.eq_nil_of_length_eq_zero hLl
                subst hL0
                have hcall := Any.strings_Join_none (ρ := joinRen) joinLays joinExtra (some a) 0 ⟨#[]⟩ w
                refine ⟨by kernel_rfl, fun cs => ?_⟩
                obtain ⟨e, w', fr, ⟨rfl, rfl⟩, hst, h1, h2⟩ := hcall cs
                exact ⟨ρ, _, _, fr, .string _, H, .refl _ _ _, hst, h1, h2⟩
              | slice hp hle2 hcp hxx =>
                rename_i p cap
                obtain ⟨own, hrow⟩ : ∃ own, h[b]? = some (.row cs own) := by
                  unfold cells? at hcs
                  split at hcs
                  · rename_i cs' own hb
                    simp only [Option.some.injEq] at hcs
                    rw [← hcs]; exact ⟨own, hb⟩
                  · simp at hcs
                obtain ⟨c, t, fz, g1, g2, g3, g4, g5⟩ := H.obj b _ p hrow hp
                have hcells : ∀ (j : Nat) x, L[j]? = some x → w.cell? ⟨p.blk, (p.sh + o) + j, none⟩ = some (.string x) := by
                  intro j x hjx
                  have hjl : j < L.length := (List.getElem?_eq_some_iff.1 hjx).1
                  have e1 : (strs L)[j]? = some (.string x) := strs_get hjx
                  rw [← hld] at e1
                  rw [List.getElem?_take_of_lt (by omega), List.getElem?_drop] at e1
                  obtain ⟨v', e2, e3⟩ := g3 (o + j) _ e1
                  cases e3
                  simp only [World.cell?, g1]
                  rw [Nat.add_assoc]
                  simpa using e2
                have hcall := Any.strings_Join (ρ := joinRen) joinLays joinExtra p.blk (p.sh + o) cap L ⟨#[]⟩ w hcells (H.lt b p hp) (by omega) (by omega) (by
                  have : (joinF L).size = (Lib.join (L.map fun s => s.data.toList) []).length := by simp [joinF, ByteArray.size]
                  show (Lib.join (L.map fun s => s.data.toList) []).length ≤ _
                  omega)
                refine ⟨by kernel_rfl, fun cs => ?_⟩
                obtain ⟨e, w', fr, ⟨rfl, hB⟩, hst, h1, h2⟩ := hcall cs
                obtain ⟨k1, k2⟩ := H.later hB.size hB.block hB.tape hB.os hB.output
                refine ⟨ρ, .string (joinF L), w', fr, .string _, k1, k2, ?_, h1, h2⟩
                rw [← hLl]
                exact hst
            · simp at hld
          · simp at hld
        · simp at hr
      · simp at hr
    · simp at hr
  · simp at hr
end Go.Proofs.YtpbmpdocgplhpaaGreatDoor
