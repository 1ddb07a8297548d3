/-
  strings.Split with an empty separator and strings.Join with an empty separator, by the library's proved contracts.
-/
import Derived.Test.YtpbmpdocgplhpaaDoorChos2
import Derived.Shelf.Strings.Explode
import Derived.Shelf.Strings.OnBuilder
set_option linter.unusedSimpArgs false
set_option linter.unusedVariables false
set_option maxRecDepth 100000
namespace Go.Proofs.YtpbmpdocgplhpaaDoor
open Go Go.AM Go.Shelf

def splitRen : Ren := ⟨fun | 146 => 82 | 221 => 94 | 268 => 115 | 138 => 116 | 143 => 81 | 195 => 132 | 197 => 123 | 218 => 133 | 219 => 93 | 260 => 137 | 217 => 111 | 225 => 112 | 224 => 113 | 267 => 114 | 266 => 130 | 314 => 131 | n => n, fun | 9 => 9 | 31 => 22 | 3 => 3 | 4 => 4 | 0 => 0 | 105 => 121 | 21 => 21 | 5 => 5 | 46 => 33 | 119 => 155 | 139 => 158 | 138 => 157 | 146 => 147 | 51 => 131 | n => n, fun | 1 => 1 | 3 => 2 | 4 => 3 | n => n⟩
theorem splitLays : Lays.n146 Tryd.prog splitRen := {
  mixed := by kernel_rfl
  f138 := Tryd.func116.trans (congrArg some (by kernel_rfl))
  f143 := Tryd.func81.trans (congrArg some (by kernel_rfl))
  f146 := Tryd.func82.trans (congrArg some (by kernel_rfl))
  f195 := Tryd.func132.trans (congrArg some (by kernel_rfl))
  f197 := Tryd.func123.trans (congrArg some (by kernel_rfl))
  f217 := Tryd.func111.trans (congrArg some (by kernel_rfl))
  f218 := Tryd.func133.trans (congrArg some (by kernel_rfl))
  f219 := Tryd.func93.trans (congrArg some (by kernel_rfl))
  f221 := Tryd.func94.trans (congrArg some (by kernel_rfl))
  f224 := Tryd.func113.trans (congrArg some (by kernel_rfl))
  f225 := Tryd.func112.trans (congrArg some (by kernel_rfl))
  f260 := Tryd.func137.trans (congrArg some (by kernel_rfl))
  f266 := Tryd.func130.trans (congrArg some (by kernel_rfl))
  f267 := Tryd.func114.trans (congrArg some (by kernel_rfl))
  f268 := Tryd.func115.trans (congrArg some (by kernel_rfl))
  f314 := Tryd.func131.trans (congrArg some (by kernel_rfl))
  t0 := Tryd.underlying0
  a0 := Tryd.isAgg0
  z0 := Tryd.sizeOf0
  v0 := Tryd.zeroValue0
  t3 := Tryd.underlying3
  a3 := Tryd.isAgg3
  z3 := Tryd.sizeOf3
  v3 := Tryd.zeroValue3
  t4 := Tryd.underlying4
  a4 := Tryd.isAgg4
  z4 := Tryd.sizeOf4
  v4 := Tryd.zeroValue4
  t5 := Tryd.underlying5
  a5 := Tryd.isAgg5
  z5 := Tryd.sizeOf5
  v5 := Tryd.zeroValue5
  t9 := Tryd.underlying9
  a9 := Tryd.isAgg9
  z9 := Tryd.sizeOf9
  v9 := Tryd.zeroValue9
  t21 := Tryd.underlying21
  a21 := Tryd.isAgg21
  z21 := Tryd.sizeOf21
  v21 := Tryd.zeroValue21
  t31 := Tryd.underlying22
  a31 := Tryd.isAgg22
  z31 := Tryd.sizeOf22
  v31 := Tryd.zeroValue22
  t46 := Tryd.underlying33
  a46 := Tryd.isAgg33
  z46 := Tryd.sizeOf33
  v46 := Tryd.zeroValue33
  t51 := Tryd.underlying131
  a51 := Tryd.isAgg131
  z51 := Tryd.sizeOf131
  v51 := Tryd.zeroValue131
  t105 := Tryd.underlying121
  a105 := Tryd.isAgg121
  z105 := Tryd.sizeOf121
  v105 := Tryd.zeroValue121
  t119 := Tryd.underlying155
  a119 := Tryd.isAgg155
  z119 := Tryd.sizeOf155
  t138 := Tryd.underlying157
  a138 := Tryd.isAgg157
  z138 := Tryd.sizeOf157
  v138 := Tryd.zeroValue157
  t139 := Tryd.underlying158
  a139 := Tryd.isAgg158
  z139 := Tryd.sizeOf158
  v139 := Tryd.zeroValue158
  t146 := Tryd.underlying147
  a146 := Tryd.isAgg147
  z146 := Tryd.sizeOf147
  v146 := Tryd.zeroValue147
  g1 := by kernel_rfl
  g3 := by kernel_rfl
  g4 := by kernel_rfl
}
def joinRen : Ren := ⟨fun | 156 => 87 | 165 => 96 | 166 => 97 | 169 => 98 | 240 => 120 | 241 => 121 | 276 => 135 | 277 => 136 | n => n, fun | 31 => 22 | 9 => 9 | 3 => 3 | 4 => 4 | 0 => 0 | 20 => 20 | 72 => 114 | 76 => 118 | 70 => 112 | 37 => 87 | 75 => 117 | 127 => 139 | 164 => 150 | 5 => 5 | 80 => 120 | n => n, fun n => n⟩
theorem joinLays : Lays.n156 Tryd.prog joinRen := {
  mixed := by kernel_rfl
  f156 := Tryd.func87.trans (congrArg some (by kernel_rfl))
  f165 := Tryd.func96.trans (congrArg some (by kernel_rfl))
  f166 := Tryd.func97.trans (congrArg some (by kernel_rfl))
  f169 := Tryd.func98.trans (congrArg some (by kernel_rfl))
  f240 := Tryd.func120.trans (congrArg some (by kernel_rfl))
  f241 := Tryd.func121.trans (congrArg some (by kernel_rfl))
  f276 := Tryd.func135.trans (congrArg some (by kernel_rfl))
  f277 := Tryd.func136.trans (congrArg some (by kernel_rfl))
  t0 := Tryd.underlying0
  a0 := Tryd.isAgg0
  z0 := Tryd.sizeOf0
  v0 := Tryd.zeroValue0
  t3 := Tryd.underlying3
  a3 := Tryd.isAgg3
  z3 := Tryd.sizeOf3
  v3 := Tryd.zeroValue3
  t4 := Tryd.underlying4
  a4 := Tryd.isAgg4
  z4 := Tryd.sizeOf4
  v4 := Tryd.zeroValue4
  t9 := Tryd.underlying9
  a9 := Tryd.isAgg9
  z9 := Tryd.sizeOf9
  v9 := Tryd.zeroValue9
  t20 := Tryd.underlying20
  a20 := Tryd.isAgg20
  z20 := Tryd.sizeOf20
  v20 := Tryd.zeroValue20
  t31 := Tryd.underlying22
  a31 := Tryd.isAgg22
  z31 := Tryd.sizeOf22
  v31 := Tryd.zeroValue22
  t37 := Tryd.underlying87
  a37 := Tryd.isAgg87
  z37 := Tryd.sizeOf87
  v37 := Tryd.zeroValue87
  t70 := Tryd.underlying112
  a70 := Tryd.isAgg112
  z70 := Tryd.sizeOf112
  v70 := Tryd.zeroValue112
  t72 := Tryd.underlying114
  a72 := Tryd.isAgg114
  z72 := Tryd.sizeOf114
  v72 := Tryd.zeroValue114
  t75 := Tryd.underlying117
  a75 := Tryd.isAgg117
  z75 := Tryd.sizeOf117
  v75 := Tryd.zeroValue117
  t76 := Tryd.underlying118
  a76 := Tryd.isAgg118
  z76 := Tryd.sizeOf118
  v76 := Tryd.zeroValue118
  t127 := Tryd.underlying139
  a127 := Tryd.isAgg139
  z127 := Tryd.sizeOf139
  v127 := Tryd.zeroValue139
  t164 := Tryd.underlying150
  a164 := Tryd.isAgg150
  z164 := Tryd.sizeOf150
  v164 := Tryd.zeroValue150
}

theorem joinExtra : Builder.Extra Tryd.prog joinRen where
  sizeBuilder := by kernel_rfl
  liesBuilder := by kernel_rfl
  t5 := Tryd.underlying5
  a5 := Tryd.isAgg5
  z5 := Tryd.sizeOf5
  v5 := Tryd.zeroValue5
  infoByte := by kernel_rfl
  cellsByte := by kernel_rfl
  sizeByte := by kernel_rfl
  neB5 := by decide

theorem splitC_kp {args : List Value} {h h' : AHeap} {v : Value} (hr : splitC args h = some (v, h')) : Kp h h' := by
  unfold splitC at hr
  split at hr
  · split at hr
    · simp only [Option.some.injEq, Prod.mk.injEq] at hr; rw [← hr.2]; exact Kp.app _ _
    · simp at hr
  · simp at hr
theorem joinC_kp {args : List Value} {h h' : AHeap} {v : Value} (hr : joinC args h = some (v, h')) : Kp h h' := by
  unfold joinC at hr
  split at hr
  · split at hr
    · split at hr
      · split at hr
        · simp only [Option.some.injEq, Prod.mk.injEq] at hr; rw [← hr.2]; exact Kp.refl _
        · simp at hr
      · simp at hr
    · simp at hr
  · simp at hr

theorem two_args {ρ : Rho} {x y : Value} {args' : Array Value} (ha : LRel ρ [x, y] args'.toList) : ∃ x' y', args' = #[x', y'] ∧ VRel ρ x x' ∧ VRel ρ y y' := by
  obtain ⟨l⟩ := args'
  simp only at ha
  cases ha with
  | cons hv ht => cases ht with
    | cons hv2 ht2 => cases ht2; exact ⟨_, _, rfl, hv, hv2⟩

theorem split_fnok {args : List Value} {h h' : AHeap} {v : Value} (hr : splitC args h = some (v, h')) {ρ : Rho} {w : World} {args' : Array Value} (H : HRel Tryd.prog.globals.size ρ h w) (ha : LRel ρ args args'.toList) :
    FnOK Tryd.prog Tryd.prog.globals.size ρ h w 82 args' v h' := by
  unfold splitC at hr
  split at hr
  · rename_i s sep
    split at hr
    · rename_i hc
      obtain ⟨h0, has, hsz⟩ := hc
      simp only [Option.some.injEq, Prod.mk.injEq] at hr
      obtain ⟨rfl, rfl⟩ := hr
      obtain ⟨x', y', rfl, hx, hy⟩ := two_args ha
      cases hx
      cases hy
      have hascii : ∀ (j : Nat) b, s.data.toList[j]? = some b → b.toNat < 128 := by
        intro j b hj
        have := List.all_eq_true.1 has b (List.mem_of_getElem? hj)
        simpa using this
      have hcall := Any.strings_Split_chars (ρ := splitRen) splitLays (by kernel_rfl) s sep w h0 (by omega) hascii
      refine ⟨by kernel_rfl, fun cs => ?_⟩
      obtain ⟨e, w', fr, ⟨rfl, rfl⟩, hst, h1, h2⟩ := hcall cs
      have hcl : (strs (Lib.charsB s)).length = s.size := by rw [strs_length]; simp [Lib.charsB, Lib.charsUpTo]
      obtain ⟨j1, j2⟩ := H.junk (.stringIter s s.size)
      obtain ⟨k1, k2⟩ := j1.alloc (oc := .cells ((Lib.charsB s).map Value.string).toArray 9) (oa := .row (strs (Lib.charsB s)) true) (sh := 0) (en := s.size) (by
        refine ⟨_, _, _, heap_alloc_new _ _, ?_, fun i v hi => ?_, ?_, fun _ => ⟨?_, ?_⟩⟩
        · rw [hcl]; simp [Lib.charsB, Lib.charsUpTo]
        · have : ∃ x, (Lib.charsB s)[i]? = some x ∧ v = .string x := by
            simp only [strs, List.getElem?_map, Option.map_eq_some_iff] at hi
            obtain ⟨x, hx, rfl⟩ := hi
            exact ⟨x, hx, rfl⟩
          obtain ⟨x, hx, rfl⟩ := this
          exact ⟨.string x, by simp [hx], .string _⟩
        · rw [hcl]; simp
        · simp [Lib.charsB, Lib.charsUpTo]
        · intro o h1 h2 h3; simp at h3)
      refine ⟨_, _, _, fr, ?_, k1, j2.trans k2, hst, h1, h2⟩
      exact .slice (p := ⟨(w.alloc (.stringIter s s.size)).heap.size, 0, s.size⟩) (upd_same _ _ _) (Nat.le_refl _) (by simp) (fun _ => rfl)
    · simp at hr
  · simp at hr

theorem join_fnok {args : List Value} {h h' : AHeap} {v : Value} (hr : joinC args h = some (v, h')) {ρ : Rho} {w : World} {args' : Array Value} (H : HRel Tryd.prog.globals.size ρ h w) (ha : LRel ρ args args'.toList) :
    FnOK Tryd.prog Tryd.prog.globals.size ρ h w 87 args' v h' := by
  unfold joinC at hr
  split at hr
  · rename_i b o len k sep
    split at hr
    · rename_i cs hld
      split at hr
      · rename_i L hL
        split at hr
        · rename_i hc
          obtain ⟨h0, hj, hlen⟩ := hc
          have hcs := strsOf_spec hL
          subst hcs
          simp only [Option.some.injEq, Prod.mk.injEq] at hr
          obtain ⟨rfl, rfl⟩ := hr
          obtain ⟨x', y', rfl, hx, hy⟩ := two_args ha
          cases hy
          have hsep : sep = ⟨#[]⟩ := by
            obtain ⟨⟨l⟩⟩ := sep
            have : l = [] := List.eq_nil_of_length_eq_zero h0
            rw [this]
          subst hsep
          unfold loadN at hld
          split at hld
          · rename_i cs hcs
            split at hld
            · rename_i hle
              simp only [Option.some.injEq] at hld
              have hLl : L.length = len := by
                have := congrArg List.length hld
                rw [strs_length] at this
                simp at this
                omega
              cases hx with
              | slice0 b o sz a k =>
                have hL0 : L = [] := List.eq_nil_of_length_eq_zero hLl
                subst hL0
                have hcall := Any.strings_Join_none (ρ := joinRen) joinLays joinExtra (some a) 0 ⟨#[]⟩ w
                refine ⟨by kernel_rfl, fun cs => ?_⟩
                obtain ⟨e, w', fr, ⟨rfl, rfl⟩, hst, h1, h2⟩ := hcall cs
                exact ⟨ρ, _, _, fr, .string _, H, .refl _ _ _, hst, h1, h2⟩
              | slice hp hle2 hcp hxx =>
                rename_i p cap
                obtain ⟨own, hrow⟩ : ∃ own, h[b]? = some (.row cs own) := by
                  unfold cells? at hcs
                  split at hcs
                  · rename_i cs' own hb
                    simp only [Option.some.injEq] at hcs
                    rw [← hcs]; exact ⟨own, hb⟩
                  · simp at hcs
                obtain ⟨c, t, fz, g1, g2, g3, g4, g5⟩ := H.obj b _ p hrow hp
                have hcells : ∀ (j : Nat) x, L[j]? = some x → w.cell? ⟨p.blk, (p.sh + o) + j, none⟩ = some (.string x) := by
                  intro j x hjx
                  have hjl : j < L.length := (List.getElem?_eq_some_iff.1 hjx).1
                  have e1 : (strs L)[j]? = some (.string x) := strs_get hjx
                  rw [← hld] at e1
                  rw [List.getElem?_take_of_lt (by omega), List.getElem?_drop] at e1
                  obtain ⟨v', e2, e3⟩ := g3 (o + j) _ e1
                  cases e3
                  simp only [World.cell?, g1]
                  rw [Nat.add_assoc]
                  simpa using e2
                have hcall := Any.strings_Join (ρ := joinRen) joinLays joinExtra p.blk (p.sh + o) cap L ⟨#[]⟩ w hcells (H.lt b p hp) (by omega) (by omega) (by
                  have : (joinF L).size = (Lib.join (L.map fun s => s.data.toList) []).length := by simp [joinF, ByteArray.size]
                  show (Lib.join (L.map fun s => s.data.toList) []).length ≤ _
                  omega)
                refine ⟨by kernel_rfl, fun cs => ?_⟩
                obtain ⟨e, w', fr, ⟨rfl, hB⟩, hst, h1, h2⟩ := hcall cs
                obtain ⟨k1, k2⟩ := H.later hB.size hB.block hB.tape hB.os hB.output
                refine ⟨ρ, .string (joinF L), w', fr, .string _, k1, k2, ?_, h1, h2⟩
                rw [← hLl]
                exact hst
            · simp at hld
          · simp at hld
        · simp at hr
      · simp at hr
    · simp at hr
  · simp at hr
end Go.Proofs.YtpbmpdocgplhpaaDoor
