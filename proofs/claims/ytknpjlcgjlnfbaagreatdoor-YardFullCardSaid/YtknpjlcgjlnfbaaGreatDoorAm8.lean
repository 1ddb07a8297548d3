/-
  THE ABSTRACT EXECUTOR: operations that read, lay and change memory.
-/
import Derived.Test.YtknpjlcgjlnfbaaGreatDoorAm7
import Derived.Laws.Append
import Derived.Laws.MakeOwn
set_option linter.unusedSimpArgs false
set_option linter.unusedVariables false
namespace Go.AM
variable {P : Program} {ρ : Rho} {G : Nat} {h : AHeap} {w : World}

/-- A new row of one's own. -/
theorem new_row (H : HRel G ρ h w) {cs cs' : List Value} (hc : LRel ρ cs cs') (extra : List Value) (e : TypeId) :
    HRel G (upd ρ h.length ⟨w.heap.size, 0, cs'.length + extra.length⟩) (h ++ [.row cs true]) (w.alloc (.cells (cs' ++ extra).toArray e)) ∧
    Fr ρ h w (upd ρ h.length ⟨w.heap.size, 0, cs'.length + extra.length⟩) (h ++ [.row cs true]) (w.alloc (.cells (cs' ++ extra).toArray e)) := by
  refine H.alloc ?_
  have hl := hc.length
  refine ⟨_, e, (0, 0), heap_push_new w _, by simp; omega, ?_, by simp; omega, fun _ => ⟨by simp, fun o _ _ => by simp⟩⟩
  intro i v hi
  obtain ⟨v', h1, h2⟩ := (hc.mono (H.updLe ⟨w.heap.size, 0, cs'.length + extra.length⟩)).get? hi
  refine ⟨v', ?_, h2⟩
  have : i < cs'.length := by
    rcases Nat.lt_or_ge i cs'.length with e | e
    · exact e
    · rw [List.getElem?_eq_none e] at h1; simp at h1
  simp only [Nat.zero_add, List.getElem?_toArray]
  rw [List.getElem?_append_left this]; exact h1

theorem new_row0 (H : HRel G ρ h w) {cs cs' : List Value} (hc : LRel ρ cs cs') (e : TypeId) :
    HRel G (upd ρ h.length ⟨w.heap.size, 0, cs'.length⟩) (h ++ [.row cs true]) (w.alloc (.cells cs'.toArray e)) ∧
    Fr ρ h w (upd ρ h.length ⟨w.heap.size, 0, cs'.length⟩) (h ++ [.row cs true]) (w.alloc (.cells cs'.toArray e)) := by
  have := new_row H hc [] e
  simpa using this

theorem zeros_eq (z : Array Value) (hz : 0 < z.size) : ∀ n : Nat, ((Array.range (n * z.size)).map (fun i => z[i % z.size]!)).toList = zerosOf z.toList n := by
  intro n
  induction n with
  | zero => simp [zerosOf]
  | succ n ih =>
    simp only [zerosOf]
    rw [← ih]
    apply List.ext_getElem?
    intro i
    simp only [Array.toList_map, Array.toList_range, List.getElem?_map, List.getElem?_append, List.length_range, Array.length_toList]
    by_cases h1 : i < z.size
    · rw [if_pos h1]
      have : i < (n + 1) * z.size := by rw [Nat.add_mul]; omega
      rw [List.getElem?_range this]
      simp [Nat.mod_eq_of_lt h1, h1]
    · rw [if_neg h1]
      by_cases h2 : i < (n + 1) * z.size
      · have h3 : i - z.size < n * z.size := by rw [Nat.add_mul] at h2; omega
        rw [List.getElem?_range h2, List.getElem?_range h3]
        simp only [Option.map_some, Option.some.injEq]
        rw [← Nat.mod_eq_sub_mod (by omega)]
      · have h3 : ¬ i - z.size < n * z.size := by rw [Nat.add_mul] at h2; omega
        rw [List.getElem?_eq_none (by simp; omega), List.getElem?_eq_none (by simp; omega)]

theorem zerosOf_length (z : List Value) : ∀ n, (zerosOf z n).length = n * z.length
  | 0 => by simp [zerosOf]
  | n + 1 => by simp [zerosOf, zerosOf_length z n, Nat.add_mul]; omega
theorem zerosOf_rel {z : List Value} (hz : LRel ρ z z) : ∀ n, LRel ρ (zerosOf z n) (zerosOf z n)
  | 0 => .nil
  | n + 1 => hz.append (zerosOf_rel hz n)

/-- A new row, as an object. -/
theorem row_obj {cs cs' : List Value} (hc : LRel ρ cs cs') (extra : List Value) (e : TypeId) {ρ' : Rho} {w' : World} {N : Nat} (hle : RhoLe ρ ρ') (hw : w'.heap[N]? = some (.cells (cs' ++ extra).toArray e)) :
    ObjRel G ρ' w' ⟨N, 0, cs'.length + extra.length⟩ (.row cs true) := by
  have hl := hc.length
  refine ⟨_, e, (0, 0), hw, by simp; omega, ?_, by simp; omega, fun _ => ⟨by simp, fun o _ _ => by simp⟩⟩
  intro i v hi
  obtain ⟨v', h1, h2⟩ := (hc.mono hle).get? hi
  refine ⟨v', ?_, h2⟩
  have : i < cs'.length := by
    rcases Nat.lt_or_ge i cs'.length with e | e
    · exact e
    · rw [List.getElem?_eq_none e] at h1; simp at h1
  simp only [Nat.zero_add, List.getElem?_toArray]
  rw [List.getElem?_append_left this]; exact h1

/-- A new object is laid, and nothing is looked at: 'mk' is what is answered where it has a given name. -/
def AlV (G : Nat) (P : Program) (ρ : Rho) (w : World) (s : Sem Value) (mk : Nat → Value) (x : AObj) : Prop :=
  ∃ (v' : Value) (oc : Obj) (sh en : Nat), s.run P w = .ok v' (w.alloc oc) ∧ x.own = true ∧ (∀ (ρ' : Rho) (w' : World), RhoLe ρ ρ' → w'.heap[w.heap.size]? = some oc → ObjRel G ρ' w' ⟨w.heap.size, sh, en⟩ x) ∧
    ∀ (ρ' : Rho) (i : Nat), ρ' i = some ⟨w.heap.size, sh, en⟩ → VRel ρ' (mk i) v'

/-- What an operation comes to. -/
def Out (G : Nat) (P : Program) (ρ : Rho) (h : AHeap) (w : World) (s : Sem Next) (v : Value) (h' : AHeap) : Prop :=
  ∃ (ρ' : Rho) (v' : Value) (w' : World) (n : Next), s.run P w = .ok n w' ∧ (n = .value v' ∨ (n = .skip ∧ v' = undef)) ∧ VRel ρ' v v' ∧ HRel G ρ' h' w' ∧ Fr ρ h w ρ' h' w'

theorem Out.still {s : Sem Next} {v v' : Value} (H : HRel G ρ h w) (hr : s.run P w = .ok (.value v') w) (hv : VRel ρ v v') : Out G P ρ h w s v h :=
  ⟨ρ, v', w, _, hr, Or.inl rfl, hv, H, .refl _ _ _⟩

theorem anew_sound (H : HRel G ρ h w) {cs cs' : List Value} (hc : LRel ρ cs cs') (e : TypeId) {s : Sem Next}
    (hs : s.run P w = .ok (.value (.pointer (some ⟨w.heap.size, 0, none⟩))) (w.alloc (.cells cs'.toArray e))) :
    Out G P ρ h w s (anew h cs).1 (anew h cs).2 := by
  obtain ⟨h1, h2⟩ := new_row0 H hc e
  exact ⟨_, _, _, _, hs, Or.inl rfl, by have := VRel.ptr (ρ := upd ρ h.length ⟨w.heap.size, 0, cs'.length⟩) (o := 0) (upd_same _ _ _); simpa [anew] using this, h1, h2⟩

theorem asliceArr_sound (H : HRel G ρ h w) {t : TypeId} {x x' v : Value} {lo hi mx lo' hi' mx' : Option Value} (hx : VRel ρ x x')
    (hlo : ∀ x, lo = some x → ∃ x', lo' = some x' ∧ VRel ρ x x') (hhi : ∀ x, hi = some x → ∃ x', hi' = some x' ∧ VRel ρ x x')
    (nlo : lo = none → lo' = none) (nhi : hi = none → hi' = none) (nmx : mx = none → mx' = none)
    (hs : asliceArr P h t x lo hi mx = some v) : ∃ v', (Instr.sliceAt t x' lo' hi' mx').run P w = .ok v' w ∧ VRel ρ v v' := by
  unfold asliceArr at hs
  split at hs
  · rename_i n e s1 s2 s3 b o ht
    split at hs
    · rename_i ie hh cs hie hhi' hcs
      split at hs
      · rename_i l hl'
        split at hs
        · rename_i hle
          simp only [Option.some.injEq] at hs; subst hs
          cases hx with
          | ptr hb =>
            rename_i p
            obtain ⟨own, hrow⟩ := cells?_spec hcs
            obtain ⟨c, tt, fz, g1, g2, g3, g4, g5⟩ := H.obj b _ p hrow hb
            obtain ⟨e1, e2, e3⟩ := sliceBounds_two (P := P) (is := false) (cap := n) hlo hhi nlo nhi (Nat.le_refl _) hhi' hl'
            have nm := nmx rfl
            subst nm
            by_cases hcl : n = l
            · subst hcl
              obtain rfl : hh = n := by omega
              refine ⟨.slice (some ⟨p.blk, p.sh + o, none⟩) 0 0, ?_, ?_⟩
              · simp [Instr.sliceAt, run_tu ht, Instr.sureAddr, e3 w, run_size hie]
              · rw [Nat.sub_self]; exact .slice0 _ _ _ _ _
            · refine ⟨.slice (some ⟨p.blk, p.sh + (o + l * ie.size), none⟩) (hh - l) (n - l), ?_, .slice hb (by omega) ?_ ?_⟩
              · simp only [Instr.sliceAt, Sem.run_bind, run_tu ht, Result.andThen_ok, Instr.sureAddr, Sem.run_pure, e3 w, run_size hie, if_neg hcl]
                congr 4
                unfold Addr.add
                split
                · simp only [Addr.mk.injEq, true_and, and_true]; omega
                · simp only [Addr.mk.injEq, true_and, and_true]; omega
              · have : (n - l) * ie.size + l * ie.size = n * ie.size := by rw [← Nat.add_mul]; congr 1; omega
                omega
              · intro he
                split at he <;> omega
        · simp at hs
      · simp at hs
    · simp at hs
  · simp at hs

theorem alenMap_sound (H : HRel G ρ h w) {t ty : TypeId} {x x' v : Value} (hx : VRel ρ x x') (hs : alenMap P h t x = some v) :
    (Builtin.len_ #[t] ty #[x']).run P w = .ok v w ∧ VRel ρ v v := by
  unfold alenMap at hs
  split at hs
  · rename_i k e r hu
    split at hs
    · rename_i es hb
      simp only [Option.some.injEq] at hs; subst hs
      cases hx with
      | map hp =>
        obtain ⟨es', clock, g1, g2, g3⟩ := H.obj _ _ _ hb hp
        have hl : es.length = es'.size := by
          have : ∀ {a : List (Value × Value)} {b : List MapEntry}, ERel ρ a b → a.length = b.length := by
            intro a b hab; induction hab with
            | nil => rfl
            | cons _ _ _ ih => simp [ih]
          simpa using this g2
        refine ⟨?_, .int _ _⟩
        simp [Builtin.len_, run_und hu, getObj, Sem.run, g1, hl]
    · simp at hs
  · simp at hs

theorem astore_sound (H : HRel G ρ h w) {t : TypeId} {a a' v v' : Value} {h' : AHeap} (ha : VRel ρ a a') (hv : VRel ρ v v') (hs : astore P h t a v = some h') :
    ∃ w', (Instr.storeAt t a' v').run P w = .ok () w' ∧ HRel G ρ h' w' ∧ Fr ρ h w ρ h' w' := by
  unfold astore at hs
  split at hs
  · rename_i b o i hi
    split at hs
    · rename_i hc
      simp only [Bool.and_eq_true, decide_eq_true_eq] at hc
      cases ha with
      | ptr hp =>
        obtain ⟨w', r1, r2, r3⟩ := storeN_sound (P := P) H hp hv.cells hs
        have hsz := hv.cellsSize
        refine ⟨w', ?_, r2, r3⟩
        simp only [Instr.storeAt, Instr.sureAddr, Sem.run_bind, Sem.run_pure, Result.andThen_ok, storeVar, run_size hi]
        rw [if_neg (by omega)]
        simp [r1]
    · simp at hs
  · simp at hs

theorem loadElems_sound (H : HRel G ρ h w) {sz m : Nat} {x x' : Value} {new : List Value} (hx : VRel ρ x x') (hm : elemsLen x = some m) (hl : loadElems h sz x = some new) :
    (Builtin.lenOf x').run P w = .ok m w ∧ ∃ new', (Builtin.firstCells sz m x').run P w = .ok new'.toArray w ∧ LRel ρ new new' ∧ new.length = m * sz := by
  unfold loadElems at hl
  split at hl
  · simp only [Option.some.injEq] at hl; subst hl
    simp only [elemsLen, Option.some.injEq] at hm; subst hm
    cases hx with
    | nilslice => exact ⟨rfl, [], rfl, .nil, by simp⟩
  · rename_i b o s n k
    split at hl
    · rename_i hs
      subst hs
      simp only [elemsLen, Option.some.injEq] at hm; subst hm
      cases hx with
      | slice hp hle hc hk =>
        obtain ⟨cs', r1, r2, r3, _⟩ := loadN_sound (P := P) H hp hl
        exact ⟨rfl, cs', by simpa [Builtin.firstCells] using r1, r2, r3⟩
      | slice0 =>
        refine ⟨rfl, [], by simp [Builtin.firstCells, loadCells, loadCellsFrom], ?_, ?_⟩
        · unfold loadN at hl
          split at hl
          · split at hl
            · simp at hl; subst hl; exact .nil
            · simp at hl
          · simp at hl
        · unfold loadN at hl
          split at hl
          · split at hl
            · simp at hl; subst hl; simp
            · simp at hl
          · simp at hl
    · simp at hl
  · rename_i s
    split at hl
    · rename_i hs
      subst hs
      simp only [Option.some.injEq] at hl; subst hl
      simp only [elemsLen, Option.some.injEq] at hm; subst hm
      cases hx with
      | string =>
        refine ⟨rfl, s.data.toList.map (fun b => .int .u8 b.toNat), ?_, ?_, ?_⟩
        · simp only [Builtin.firstCells, Sem.run_pure]
          congr 1
          apply Array.toList_inj.1
          have e : (s.extract 0 s.size).data = s.data := by rw [ByteArray.data_extract]; exact Array.extract_size
          rw [e]
          simp
        · generalize s.data.toList = l
          induction l with
          | nil => exact .nil
          | cons a l ih => exact .cons (.int _ _) ih
        · rw [List.length_map, Array.length_toList, Nat.mul_one]; rfl
    · simp at hl
  · simp at hl
end Go.AM
