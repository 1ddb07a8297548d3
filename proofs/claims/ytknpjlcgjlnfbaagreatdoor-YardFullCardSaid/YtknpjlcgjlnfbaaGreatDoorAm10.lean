/-
  THE ABSTRACT EXECUTOR: every operation but calls of functions.
-/
import Derived.Test.YtknpjlcgjlnfbaaGreatDoorAm9m
set_option linter.unusedSimpArgs false
set_option linter.unusedVariables false
namespace Go.AM
variable {P : Program} {ρ : Rho} {G : Nat} {h : AHeap} {w : World}

theorem range0 {α : Type} (f : Nat → α) : Array.map f (Array.range 0) = #[] := by apply Array.eq_empty_of_size_eq_zero; simp

theorem amakeSlice_al {t : TypeId} {l l' c c' v : Value} {h' : AHeap} (hl : VRel ρ l l') (hc : VRel ρ c c') (ha : amakeSlice P h t l c = some (v, h')) :
    ∃ mk x, v = mk h.length ∧ h' = h ++ [x] ∧ ∀ w, AlV G P ρ w (Instr.makeSlice t l' c') mk x := by
  unfold amakeSlice at ha
  split at ha
  · rename_i e s1 s2 s3 l0 c0 ht el ec
    obtain ⟨kl, rfl⟩ := asIdx_run el hl
    obtain ⟨kc, rfl⟩ := asIdx_run ec hc
    split at ha
    · rename_i ie hie
      split at ha
      · rename_i hcond
        obtain ⟨h0, hlc, hlim, hby, hsz⟩ := hcond
        simp only [Option.some.injEq, Prod.mk.injEq] at ha
        obtain ⟨rfl, rfl⟩ := ha
        obtain ⟨hue, i, hi, hs, hbi, hz⟩ := ti_spec hie
        have hlm : lim = 4294967296 := rfl
        have hlb : limBytes = 4096 := rfl
        have w1 : IntKind.i64.wrap l0 = l0 := by have hb : IntKind.i64.bits = 64 := rfl; have hs : IntKind.i64.signed = true := rfl; unfold IntKind.wrap; rw [hb, hs]; simp only [Bool.true_and]; split <;> rename_i hq <;> simp at hq <;> omega
        have w2 : IntKind.i64.wrap c0 = c0 := by have hb : IntKind.i64.bits = 64 := rfl; have hs : IntKind.i64.signed = true := rfl; unfold IntKind.wrap; rw [hb, hs]; simp only [Bool.true_and]; split <;> rename_i hq <;> simp at hq <;> omega
        have hzc := ti_size hie
        have hzr : LRel ρ ie.zero.cells.toList ie.zero.cells.toList := (constOK_refl ρ (ti_zero hie)).cells
        have ear : ((Array.range (c0.toNat * i.size)).map (fun j => ie.zero.cells[j % ie.zero.cells.size]!)) = (zerosOf ie.zero.cells.toList c0.toNat).toArray := by
          apply Array.toList_inj.1
          have := zeros_eq ie.zero.cells (by omega) c0.toNat
          rw [hs, ← hzc]; simpa using this
        have hbt : ∀ n : Int, 0 ≤ n → n ≤ 4294967296 → ¬ ((i.bytes : Int) * n > 281474976710656) := by
          intro n hn hn2
          rw [hbi]
          have hm : (ie.bytes : Int) * n ≤ 4096 * 4294967296 := by
            obtain ⟨m, rfl⟩ := Int.eq_ofNat_of_zero_le hn
            have := Nat.mul_le_mul (show ie.bytes ≤ 4096 by omega) (show m ≤ 4294967296 by omega)
            omega
          omega
        have hrun : ∀ w : World, (Instr.makeSlice t (.int kl l0) (.int kc c0)).run P w = .ok (.slice (some ⟨w.heap.size, 0, none⟩) l0.toNat c0.toNat) (w.alloc (.cells (zerosOf ie.zero.cells.toList c0.toNat).toArray e)) := by
          intro w
          have hb1 := hbt c0 (by omega) (by omega)
          have c1 : ¬ (c0 < 0) := by omega
          have c2 : ¬ (l0 < 0) := by omega
          have c3 : ¬ (l0 > c0) := by omega
          simp only [Instr.makeSlice, Sem.run_bind, run_tu ht, Result.andThen_ok, asInt, asIntOf, Sem.run_pure, typeInfo, run_program, hi, w1, w2]
          simp only [gt_iff_lt, Int.reducePow] at hb1 ⊢
          have d1 : decide (c0 < 0) = false := by simp; omega
          have d2 : decide (281474976710656 < (i.bytes : Int) * c0) = false := by simp; omega
          have d3 : decide (l0 < 0) = false := by simp; omega
          have d4 : decide (c0 < l0) = false := by simp; omega
          simp only [d1, d2, d3, d4, Bool.or_false, Bool.or_self, Bool.false_eq_true, if_false, Sem.run_pure, Result.andThen_ok, run_askRoom, Sem.run_bind, sizeOf, typeInfo, run_program, hi]
          by_cases hn0 : c0.toNat * i.size = 0
          · rw [if_pos hn0]
            rw [hn0]
            have hc0 : c0.toNat = 0 := by
              rcases Nat.mul_eq_zero.1 hn0 with e | e
              · exact e
              · omega
            have hl0 : l0.toNat = 0 := by omega
            simp [newRow, hc0, zerosOf, range0]
          · rw [if_neg hn0]
            simp only [Sem.run_bind, run_zero hie, Result.andThen_ok, Sem.run_pure, newRow, run_newObj]
            rw [ear]; rfl
        have hsplit : zerosOf ie.zero.cells.toList c0.toNat = zerosOf ie.zero.cells.toList l0.toNat ++ zerosOf ie.zero.cells.toList (c0.toNat - l0.toNat) := by
          have : ∀ a b, zerosOf ie.zero.cells.toList (a + b) = zerosOf ie.zero.cells.toList a ++ zerosOf ie.zero.cells.toList b := by
            intro a b
            induction a with
            | zero => simp [zerosOf]
            | succ a ih => rw [show a + 1 + b = (a + b) + 1 by omega]; simp [zerosOf, ih]
          rw [← this]; congr 1; omega
        refine ⟨fun i => .slice (some ⟨i, 0, some ie.size⟩) l0.toNat (if l0 = c0 then l0.toNat else l0.toNat + 1), .row (zerosOf ie.zero.cells.toList l0.toNat) true, rfl, rfl, fun w => ⟨_, _, 0, (zerosOf ie.zero.cells.toList l0.toNat).length + (zerosOf ie.zero.cells.toList (c0.toNat - l0.toNat)).length, hrun w, rfl, fun ρ' w' hle hw => ?_, fun ρ' i hi => ?_⟩⟩
        · rw [hsplit] at hw
          exact row_obj (zerosOf_rel hzr l0.toNat) (zerosOf ie.zero.cells.toList (c0.toNat - l0.toNat)) e hle hw
        · refine VRel.slice (p := ⟨w.heap.size, 0, _⟩) hi (by omega) ?_ ?_
          · simp only [zerosOf_length, Array.length_toList, hzc]
            rw [← Nat.add_mul]
            have : l0.toNat + (c0.toNat - l0.toNat) = c0.toNat := by omega
            rw [this]; omega
          · intro he; split at he
            · rename_i e2; rw [e2]
            · omega
      · simp at ha
    · simp at ha
  · simp at ha

theorem amakeSlice_sound (H : HRel G ρ h w) {t : TypeId} {l l' c c' v : Value} {h' : AHeap} (hl : VRel ρ l l') (hc : VRel ρ c c') (ha : amakeSlice P h t l c = some (v, h')) :
    OutV G P ρ h w (Instr.makeSlice t l' c') v h' := by
  obtain ⟨mk, x, rfl, rfl, A⟩ := amakeSlice_al (G := G) hl hc ha
  exact (A w).out H

theorem abuildSlice_al {t : TypeId} {len : Nat} {parts parts' : List (Nat × Value)} {v : Value} {h' : AHeap}
    (hm : parts.map (·.1) = parts'.map (·.1)) (hv : LRel ρ (parts.map (·.2)) (parts'.map (·.2))) (ha : abuildSlice P h t len parts = some (v, h')) :
    ∃ mk x, v = mk h.length ∧ h' = h ++ [x] ∧ ∀ w, AlV G P ρ w (Instr.buildSlice t len parts'.toArray) mk x := by
  unfold abuildSlice at ha
  split at ha
  · rename_i e s1 s2 s3 ht
    split at ha
    · rename_i ie hie
      split at ha
      · rename_i hcond
        obtain ⟨hcap, hsz⟩ := hcond
        split at ha
        · rename_i cs hf
          simp only [Option.some.injEq, Prod.mk.injEq] at ha
          obtain ⟨rfl, rfl⟩ := ha
          have hzc := ti_size hie
          have hzr : LRel ρ ie.zero.cells.toList ie.zero.cells.toList := (constOK_refl ρ (ti_zero hie)).cells
          obtain ⟨r', f1, f2⟩ := afill_sound hm hv (zerosOf_rel hzr len) hf
          have ear : ((Array.range (len * ie.size)).map (fun j => ie.zero.cells[j % ie.zero.cells.size]!)) = (zerosOf ie.zero.cells.toList len).toArray := by
            apply Array.toList_inj.1
            have := zeros_eq ie.zero.cells (by omega) len
            rw [← hzc]; simpa using this
          have hlen : ∀ {pl : Nat → Option (Nat × Nat)} {ps : List (Nat × Value)} {a b : List Value}, afill pl a ps = some b → b.length = a.length := by
            intro pl ps
            induction ps with
            | nil => intro a b hab; simp [afill] at hab; rw [hab]
            | cons q ps ih =>
              intro a b hab
              obtain ⟨i, u⟩ := q
              simp only [afill] at hab
              split at hab
              · simp at hab
              · split at hab
                · simp at hab
                · rename_i hcnd
                  simp only [ne_eq, gt_iff_lt, Bool.or_eq_true, decide_eq_true_eq, Bool.not_eq_true', not_or, Decidable.not_not, Nat.not_lt, Bool.not_eq_false] at hcnd
                  rw [ih hab, splice_length (by simp; omega)]
          have hl := hlen hf
          rw [zerosOf_length] at hl
          simp only [Array.length_toList, hzc] at hl
          have hrl := f2.length
          refine ⟨fun i => .slice (some ⟨i, 0, some ie.size⟩) len len, .row cs true, rfl, rfl, fun w => ⟨.slice (some ⟨w.heap.size, 0, none⟩) len len, .cells (r' ++ []).toArray e, 0, r'.length + ([] : List Value).length, ?_, rfl, fun ρ' w' hle hw => row_obj f2 [] e hle hw, fun ρ' i hi => ?_⟩⟩
          · have hn : ¬ (len * ie.size > 2 ^ 24) := by omega
            simp only [Instr.buildSlice, Sem.run_bind, run_tu ht, Result.andThen_ok, run_size hie, if_neg hn, Sem.run_pure]
            by_cases hn0 : len * ie.size = 0
            · rw [if_pos hn0, hn0]
              have hl0 : len = 0 := by
                rcases Nat.mul_eq_zero.1 hn0 with e | e
                · exact e
                · omega
              subst hl0
              simp only [Sem.run_bind, Sem.run_pure, Result.andThen_ok, range0]
              have : Instr.fill (fun i => some (i * ie.size, ie.size)) #[] parts' = some r'.toArray := by
                simpa [zerosOf] using f1
              rw [this]
              simp [newRow]
            · rw [if_neg hn0]
              simp only [Sem.run_bind, run_zero hie, Result.andThen_ok, Sem.run_pure]
              rw [ear]
              rw [f1]
              simp [newRow]
          · refine VRel.slice (p := ⟨w.heap.size, 0, r'.length + ([] : List Value).length⟩) hi (Nat.le_refl _) ?_ (fun _ => rfl)
            simp only [Nat.zero_add, List.length_nil]; omega
        · simp at ha
      · simp at ha
    · simp at ha
  · simp at ha

theorem abuildSlice_sound (H : HRel G ρ h w) {t : TypeId} {len : Nat} {parts parts' : List (Nat × Value)} {v : Value} {h' : AHeap}
    (hm : parts.map (·.1) = parts'.map (·.1)) (hv : LRel ρ (parts.map (·.2)) (parts'.map (·.2))) (ha : abuildSlice P h t len parts = some (v, h')) :
    OutV G P ρ h w (Instr.buildSlice t len parts'.toArray) v h' := by
  obtain ⟨mk, x, rfl, rfl, A⟩ := abuildSlice_al (G := G) hm hv ha
  exact (A w).out H

theorem aslot_siter (H : HRel G ρ h w) {r : Nat} {p : Pl} {s : ByteArray} {pos pos' : Nat} (hb : h[r]? = some (.siter s pos)) (hp : ρ r = some p) :
    HRel G ρ (h.set r (.siter s pos')) { w with heap := w.heap.setIfInBounds p.blk (.stringIter s pos') } ∧ Fr ρ h w ρ (h.set r (.siter s pos')) { w with heap := w.heap.setIfInBounds p.blk (.stringIter s pos') } := by
  obtain ⟨g1, g2⟩ := H.obj r _ p hb hp
  refine H.update hb rfl hp (by simp) rfl rfl rfl ?_ rfl ⟨?_, g2⟩
  · intro c hc
    rw [Array.getElem?_setIfInBounds, if_neg (fun e => hc e.symm)]
  · rw [Array.getElem?_setIfInBounds, if_pos rfl, if_pos (H.lt r p hp)]

theorem anext_sound (H : HRel G ρ h w) {it it' v : Value} {h' : AHeap} {ty : TypeId} (hi : VRel ρ it it') (ha : anext h it = some (v, h')) :
    OutV G P ρ h w (Instr.next it' true ty) v h' := by
  unfold anext at ha
  split at ha
  · rename_i r
    split at ha
    · rename_i s pos hb
      cases hi with
      | ptr hp =>
        rename_i p
        obtain ⟨g1, g2⟩ := H.obj r _ p hb hp
        split at ha
        · rename_i hlt
          simp only [Option.some.injEq, Prod.mk.injEq] at ha
          obtain ⟨rfl, rfl⟩ := ha
          obtain ⟨k1, k2⟩ := aslot_siter H (pos' := pos + (Utf8.decode s pos).2) hb hp
          refine ⟨ρ, .tuple #[.bool true, goInt pos, .int .i32 (Utf8.decode s pos).1], _, ?_, ?_, k1, k2⟩
          · rw [g2]
            simp [Instr.next, getObj, setObj, Sem.run, g1, hlt, Nat.add_zero]
          · exact (LRel.cons (.bool _) (.cons (.int _ _) (.cons (.int _ _) .nil))).tuple
        · rename_i hlt
          simp only [Option.some.injEq, Prod.mk.injEq] at ha
          obtain ⟨rfl, rfl⟩ := ha
          refine ⟨ρ, .tuple #[.bool false], w, ?_, (LRel.cons (.bool _) .nil).tuple, H, .refl _ _ _⟩
          rw [g2]
          simp [Instr.next, getObj, Sem.run, g1, hlt]
    · simp at ha
  · simp at ha

theorem range_sound (H : HRel G ρ h w) {t : TypeId} (ht : P.underlying t = some .string) (s : ByteArray) :
    OutV G P ρ h w (Instr.range t (.string s)) (.pointer (some ⟨h.length, 0, none⟩)) (h ++ [.siter s 0]) := by
  obtain ⟨k1, k2⟩ := H.alloc (oc := .stringIter s 0) (oa := .siter s 0) (sh := 0) (en := 0) ⟨heap_push_new w _, rfl⟩
  refine ⟨_, .pointer (some ⟨w.heap.size, 0, none⟩), _, ?_, ?_, k1, k2⟩
  · simp [Instr.range, run_und ht]
  · have := VRel.ptr (ρ := upd ρ h.length ⟨w.heap.size, 0, 0⟩) (o := 0) (upd_same _ _ _); simpa using this

theorem freeze_heap (w : World) (b n : Nat) (c : Array Value) (e : TypeId) (hb : w.heap[b]? = some (.cells c e (0, 0))) :
    (w.freeze ⟨b, n, none⟩ 1).heap[b]? = some (.cells c e (n, n + 1)) ∧ (∀ k, k ≠ b → (w.freeze ⟨b, n, none⟩ 1).heap[k]? = w.heap[k]?) ∧ (w.freeze ⟨b, n, none⟩ 1).heap.size = w.heap.size := by
  unfold World.freeze
  rw [if_neg (by omega)]
  refine ⟨?_, ?_, by simp⟩
  · simp only [Array.getElem?_modify, if_true, hb, Option.map_some]; simp
  · intro k hk; simp only [Array.getElem?_modify]; rw [if_neg (fun e => hk e.symm)]

theorem conv_bytes (H : HRel G ρ h w) {s d e : TypeId} {ds : TypeDesc} (hs : P.underlying s = some ds) (hd : P.underlying d = some (.slice e)) (he : P.underlying e = some (.int .u8)) (b : ByteArray) :
    OutV G P ρ h w (Go.convert s d (.string b)) (.slice (some ⟨h.length, 0, some 1⟩) b.size (b.size + 1)) (h ++ [.row (b.data.toList.map fun c => Value.int .u8 c.toNat) true]) := by
  let cap := grownCap w b.size 0 e
  have hcap : b.size ≤ cap := cut_ge w b.size 0 e
  let cs : List Value := b.data.toList.map fun c => Value.int .u8 c.toNat
  have hlen : cs.length = b.size := by simp [cs]
  have hcs : LRel ρ cs cs := by
    show LRel ρ (b.data.toList.map _) (b.data.toList.map _)
    generalize b.data.toList = l
    induction l with
    | nil => exact .nil
    | cons a l ih => exact .cons (.int _ _) ih
  let w1 := w.drew.alloc (.cells (cs ++ List.replicate (cap - b.size) (Value.int .u8 0)).toArray e)
  have hb1 : w1.heap[w.heap.size]? = some (.cells (cs ++ List.replicate (cap - b.size) (Value.int .u8 0)).toArray e (0, 0)) := heap_push_new w.drew _
  have hsize : (cs ++ List.replicate (cap - b.size) (Value.int .u8 0)).length = cap := by simp [hlen]; omega
  obtain ⟨z1, z2, z3⟩ := freeze_heap w1 w.heap.size cap _ _ hb1
  obtain ⟨k1, k2⟩ := H.drew.alloc (oc := .cells (cs ++ List.replicate (cap - b.size) (Value.int .u8 0)).toArray e (cap, cap + 1)) (oa := .row cs true) (sh := 0) (en := cap) (by
    have hle := H.updLe ⟨w.heap.size, 0, cap⟩
    refine ⟨_, e, (cap, cap + 1), heap_push_new w.drew _, by simp [hlen], ?_, by simp [hlen]; omega, fun _ => ⟨by simp [hlen]; omega, fun o _ ho => by simp at ho ⊢; omega⟩⟩
    intro i v hi
    obtain ⟨v', h1, h2⟩ := (hcs.mono hle).get? hi
    refine ⟨v', ?_, h2⟩
    have : i < cs.length := by
      rcases Nat.lt_or_ge i cs.length with e | e
      · exact e
      · rw [List.getElem?_eq_none e] at h1; simp at h1
    simp only [Nat.zero_add, List.getElem?_toArray]
    rw [List.getElem?_append_left this]; exact h1)
  have ew : w1.freeze ⟨w.heap.size, cap, none⟩ 1 = w.drew.alloc (.cells (cs ++ List.replicate (cap - b.size) (Value.int .u8 0)).toArray e (cap, cap + 1)) := by
    unfold World.freeze
    rw [if_neg (by omega)]
    show World.mk _ _ _ _ _ = World.mk _ _ _ _ _
    congr 1
    apply Array.ext_getElem?
    intro i
    rw [Array.getElem?_modify]
    show (if w.heap.size = i then _ else (w.heap.push _)[i]?) = (w.heap.push _)[i]?
    by_cases hi : w.heap.size = i
    · subst hi
      rw [if_pos rfl, hb1]
      simp
    · rw [if_neg hi, Array.getElem?_push, Array.getElem?_push, if_neg (fun e => hi e.symm), if_neg (fun e => hi e.symm)]
  refine ⟨_, .slice (some ⟨w.heap.size, 0, none⟩) b.size cap, _, ?_, ?_, k1, (Fr.drew ρ h w).trans k2⟩
  · simp only [Go.convert, Sem.run_bind, run_und hs, run_und hd, Result.andThen_ok]
    have hgo : (Conv.stringToBytes e b).run P w = .ok (.slice (some ⟨w.heap.size, 0, none⟩) b.size cap) (w.drew.alloc (.cells (cs ++ List.replicate (cap - b.size) (Value.int .u8 0)).toArray e (cap, cap + 1))) := by
      have earr : (Array.map (fun b : UInt8 => Value.int .u8 b.toNat) b.data) ++ Array.replicate (cap - b.size) (Value.int .u8 0) = (cs ++ List.replicate (cap - b.size) (Value.int .u8 0)).toArray := by
        apply Array.toList_inj.1; simp [cs]
      have hsh : w1.shape? w.heap.size = some (e, cap) := by simp [World.shape?, hb1, hlen]; omega
      simp only [Conv.stringToBytes, Sem.run_bind, run_choose, Question.forced, Bool.false_eq_true, if_false, Result.andThen_ok]
      show ((newRow e (_ ++ Array.replicate (cap - b.size) (Value.int .u8 0))).run P w.drew).andThen _ = _
      rw [earr]
      simp only [newRow, Sem.run_bind, run_newObj, Result.andThen_ok, Sem.run_pure, markStringish, run_shape]
      show ((match w1.shape? w.heap.size with | some (_, n) => _ | _ => _ : Sem Unit).run P w1).andThen _ = _
      rw [hsh]
      simp only [run_freeze, Result.andThen_ok, Sem.run_pure]
      exact congrArg (Result.ok _) ew
    cases ds <;> simp only [Sem.run_bind, run_und he, Result.andThen_ok, hgo]
  · refine VRel.slice (p := ⟨w.heap.size, 0, cap⟩) (upd_same _ _ _) hcap (by simp) (by omega)

/-- An operation that is no call of a function value. -/
def notCall : Op → Prop
  | .call { callee := .value _, .. } => False
  | .call { callee := .invoke _ _, .. } => False
  | _ => True

theorem run_pushes (f : Value → ByteArray → Sem (ForInStep ByteArray)) (hf : ∀ n s, f (.int .u8 n) s = pure (ForInStep.yield (s.push (UInt8.ofNat n.toNat)))) : ∀ (cs : List Value) (l : List UInt8) (s : ByteArray), bytesL cs = some l →
    (forIn cs s f : Sem ByteArray).run P w = .ok ⟨⟨s.data.toList ++ l⟩⟩ w := by
  intro cs
  induction cs with
  | nil => intro l s hb; simp only [bytesL, Option.some.injEq] at hb; subst hb; simp
  | cons c cs ih =>
    intro l s hb
    simp only [bytesL] at hb
    split at hb
    · rename_i n r hr
      simp only [Option.some.injEq] at hb; subst hb
      simp only [List.forIn_cons, Sem.run_bind, hf]
      have := ih r (s.push (UInt8.ofNat n.toNat)) hr
      simp [this]
    · simp at hb
theorem bytes_rel {cs cs' : List Value} (h : LRel ρ cs cs') : ∀ {l : List UInt8}, bytesL cs = some l → bytesL cs' = some l := by
  induction h with
  | nil => intro l h; exact h
  | cons hv _ ih =>
    intro l hb
    simp only [bytesL] at hb ⊢
    split at hb
    · rename_i n r hr
      cases hv
      simp only [ih hr]; exact hb
    · simp at hb
theorem abytes_sound (H : HRel G ρ h w) {s d : TypeId} {x x' v : Value} (hx : VRel ρ x x') (ha : abytes P h s d x = some v) :
    ∃ v', (Go.convert s d x').run P w = .ok v' w ∧ VRel ρ v v' := by
  unfold abytes at ha
  split at ha
  · rename_i e a k hs hd
    split at ha
    · rename_i he
      simp only [Option.some.injEq] at ha; subst ha
      cases hx
      refine ⟨.string .empty, ?_, .string _⟩
      simp [Go.convert, run_und hs, run_und hd, run_und he, Conv.bytesToString]
    · simp at ha
  · rename_i e b o sz n k hs hd
    split at ha
    · rename_i he
      cases hc : (Nat.beq sz 1 && Nat.blt 0 n) with
      | false => rw [hc] at ha; simp at ha
      | true =>
        rw [hc] at ha
        simp only [cond_true] at ha
        simp only [Bool.and_eq_true] at hc
        have hn : 0 < n := Nat.le_of_ble_eq_true hc.2
        split at ha
        · rename_i cs hcs
          split at ha
          · rename_i l hl
            simp only [Option.some.injEq] at ha; subst ha
            cases hx with
            | slice hp hle hcp hk =>
              obtain ⟨cs', h1, h2, h3, _⟩ := loadN_sound (P := P) H hp hcs
              refine ⟨.string ⟨⟨l⟩⟩, ?_, .string _⟩
              simp only [Go.convert, Sem.run_bind, run_und hs, run_und hd, run_und he, Result.andThen_ok, Conv.bytesToString, h1, List.forIn_toArray]
              rw [run_pushes (P := P) (w := w) _ (fun n s => rfl) cs' l ByteArray.empty (bytes_rel h2 hl)]
              simp
            | slice0 => omega
          · simp at ha
        · simp at ha
    · simp at ha
  · simp at ha
theorem aread_sound {ea ec : Operand → Value} (hE : ∀ x, opndOK G x = true → VRel ρ (ea x) (ec x)) (H : HRel G ρ h w) {o : Oper} (ho : operOK G o = true) {v : Value} (ha : aread P ea h o.op = some v) :
    ∃ v', (execOp ec o).run P w = .ok (.value v') w ∧ VRel ρ v v' := by
  have ho : ∀ x ∈ o.op.operands.toList, opndOK G x = true := List.all_eq_true.1 ho
  unfold aread at ha
  split at ha
  · rename_i t a hop
    rw [hop] at ho
    obtain ⟨v', h1, _, h2⟩ := aload_sound H (hE a (ho a (by simp [Op.operands]))) ha
    exact ⟨v', by simp [execOp, hop, h1], h2⟩
  · rename_i t x lo hi mx hop
    rw [hop] at ho
    obtain ⟨l1, l2⟩ := opt_rel (ρ := ρ) hE (o := lo) (fun y hy => ho y (by simp [Op.operands, hy]))
    obtain ⟨m1, m2⟩ := opt_rel (ρ := ρ) hE (o := hi) (fun y hy => ho y (by simp [Op.operands, hy]))
    obtain ⟨n1, n2⟩ := opt_rel (ρ := ρ) hE (o := mx) (fun y hy => ho y (by simp [Op.operands, hy]))
    obtain ⟨v', h1, h2⟩ := asliceArr_sound H (hE x (ho x (by simp [Op.operands]))) l1 m1 l2 m2 n2 ha
    exact ⟨v', by simp [execOp, hop, h1], h2⟩
  · rename_i t m k ok hop
    rw [hop] at ho
    split at ha
    · rename_i v0 ha0
      simp only [Option.some.injEq] at ha; subst ha
      obtain ⟨v', h1, h2⟩ := alookup_sound H (hE m (ho m (by simp [Op.operands]))) (hE k (ho k (by simp [Op.operands]))) ha0
      exact ⟨v', by simp [execOp, hop, h1], h2⟩
    · obtain ⟨v', h1, h2⟩ := alookupA_sound H (hE m (ho m (by simp [Op.operands]))) (hE k (ho k (by simp [Op.operands]))) ha
      exact ⟨v', by simp [execOp, hop, h1], h2⟩
  · rename_i args argTypes hop
    rw [hop] at ho
    split at ha
    · rename_i x t hargs hat
      have hargs : args = #[x] := by apply Array.toList_inj.1; simpa using hargs
      have htys : argTypes = #[t] := by apply Array.toList_inj.1; simpa using hat
      subst hargs htys
      obtain ⟨h1, h2⟩ := alenMap_sound (P := P) (ty := o.type) H (hE x (ho x (by simp [Op.operands, Call.operands]))) ha
      exact ⟨v, by simp [execOp, hop, resolve, invoke, builtin, h1], h2⟩
    · simp at ha
  · rename_i s d x hop
    rw [hop] at ho
    obtain ⟨v', h1, h2⟩ := abytes_sound H (hE x (ho x (by simp [Op.operands]))) ha
    exact ⟨v', by simp [execOp, hop, h1], h2⟩
  · simp at ha

theorem aeff_sound {ea ec : Operand → Value} (hE : ∀ x, opndOK G x = true → VRel ρ (ea x) (ec x)) (H : HRel G ρ h w) {o : Oper} (ho : operOK G o = true) {v : Value} {h' : AHeap} (ha : aeff P ea h o.op = some (v, h')) :
    Out G P ρ h w (execOp ec o) v h' := by
  have ho : ∀ x ∈ o.op.operands.toList, opndOK G x = true := List.all_eq_true.1 ho
  unfold aeff at ha
  split at ha
  · -- alloc
    rename_i e hop
    split at ha
    · rename_i i hi
      split at ha
      · simp only [Option.some.injEq] at ha
        rw [show v = (anew h i.zero.cells.toList).1 by rw [ha], show h' = (anew h i.zero.cells.toList).2 by rw [ha]]
        refine anew_sound H (constOK_refl ρ (ti_zero hi)).cells e ?_
        simp [execOp, hop, Instr.alloc, run_zero hi, newVar, newRow]
      · simp at ha
    · simp at ha
  · -- box
    rename_i e x hop
    rw [hop] at ho
    have hx := hE x (ho x (by simp [Op.operands]))
    split at ha
    · simp only [Option.some.injEq] at ha
      rw [show v = (anew h (ea x).cells.toList).1 by rw [ha], show h' = (anew h (ea x).cells.toList).2 by rw [ha]]
      refine anew_sound H hx.cells e ?_
      simp [execOp, hop, Instr.box, newVar, newRow]
    · simp at ha
  · -- buildSlice
    rename_i t len parts hop
    rw [hop] at ho
    have hall : (parts.toList.map (·.2)).all (opndOK G) = true := by
      rw [List.all_eq_true]
      intro x hx
      rw [List.mem_map] at hx
      obtain ⟨p, hp, rfl⟩ := hx
      exact ho p.2 (by simp only [Op.operands, List.mem_map]; exact ⟨p, hp, rfl⟩)
    have := abuildSlice_sound H (parts' := parts.toList.map fun p => (p.1, ec p.2)) (by simp) (by have := map_rel hE hall; simpa [List.map_map, Function.comp_def] using this) ha
    have e : (parts.toList.map fun p => (p.1, ec p.2)).toArray = parts.map fun (i, x) => (i, ec x) := by
      apply Array.toList_inj.1; simp
    rw [e] at this
    have := this.out
    simpa only [execOp, hop] using this
  · -- store
    rename_i t a x hop
    rw [hop] at ho
    split at ha
    · rename_i h2 hs
      simp only [Option.some.injEq, Prod.mk.injEq] at ha
      obtain ⟨rfl, rfl⟩ := ha
      obtain ⟨w', r1, r2, r3⟩ := astore_sound H (hE a (ho a (by simp [Op.operands]))) (hE x (ho x (by simp [Op.operands]))) hs
      exact ⟨ρ, undef, w', .skip, by simp [execOp, hop, r1], Or.inr ⟨rfl, rfl⟩, .undef ρ, r2, r3⟩
    · simp at ha
  · -- makeSlice
    rename_i t l c hop
    rw [hop] at ho
    have := (amakeSlice_sound H (hE l (ho l (by simp [Op.operands]))) (hE c (ho c (by simp [Op.operands]))) ha).out
    simpa only [execOp, hop] using this
  · -- range
    rename_i t x hop
    rw [hop] at ho
    have hx := hE x (ho x (by simp [Op.operands]))
    split at ha
    · rename_i s hu hxs
      simp only [Option.some.injEq, Prod.mk.injEq] at ha
      obtain ⟨rfl, rfl⟩ := ha
      rw [hxs] at hx
      generalize hcc : ec x = cc at hx
      cases hx
      have := (range_sound H hu s).out
      simpa only [execOp, hop, hcc] using this
    · simp at ha
  · -- next
    rename_i it hop
    rw [hop] at ho
    have := (anext_sound (P := P) (ty := o.type) H (hE it (ho it (by simp [Op.operands]))) ha).out
    simpa only [execOp, hop] using this
  · -- convert
    rename_i s d x hop
    rw [hop] at ho
    have hx := hE x (ho x (by simp [Op.operands]))
    split at ha
    · rename_i ds e b hs hd hxb
      split at ha
      · rename_i he
        split at ha
        · simp only [Option.some.injEq, Prod.mk.injEq] at ha
          obtain ⟨rfl, rfl⟩ := ha
          rw [hxb] at hx
          generalize hcc : ec x = cc at hx
          cases hx
          have := (conv_bytes H hs hd he b).out
          simpa only [execOp, hop, hcc] using this
        · simp at ha
      · simp at ha
    · simp at ha
  · -- append
    rename_i args argTypes hop
    rw [hop] at ho
    split at ha
    · rename_i s x sT xT hargs hat
      have hargs : args = #[s, x] := by apply Array.toList_inj.1; simpa using hargs
      have htys : argTypes = #[sT, xT] := by apply Array.toList_inj.1; simpa using hat
      subst hargs htys
      split at ha
      · simp at ha
      · rename_i d hnd hu
        have := (aappend_sound (ty := o.type) H hu (fun k e => hnd k e) (hE s (ho s (by simp [Op.operands, Call.operands]))) (hE x (ho x (by simp [Op.operands, Call.operands]))) ha)
        obtain ⟨ρ', v', w', k1, k2, k3, k4⟩ := this
        exact ⟨ρ', v', w', .value v', by simp [execOp, hop, resolve, invoke, builtin, k1], Or.inl rfl, k2, k3, k4⟩
      · simp at ha
    · simp at ha
  · -- clear
    rename_i args argTypes hop
    rw [hop] at ho
    split at ha
    · rename_i x t hargs hat
      have hargs : args = #[x] := by apply Array.toList_inj.1; simpa using hargs
      have htys : argTypes = #[t] := by apply Array.toList_inj.1; simpa using hat
      subst hargs htys
      split at ha
      · rename_i h2 hc
        simp only [Option.some.injEq, Prod.mk.injEq] at ha
        obtain ⟨rfl, rfl⟩ := ha
        obtain ⟨w', r1, r2, r3⟩ := aclear_sound (P := P) (ty := o.type) (ts := #[t]) H rfl (hE x (ho x (by simp [Op.operands, Call.operands]))) hc
        exact ⟨ρ, .tuple #[], w', .value (.tuple #[]), by simp [execOp, hop, resolve, invoke, builtin, r1], Or.inl rfl, LRel.nil.tuple, r2, r3⟩
      · simp at ha
    · simp at ha
  · -- makeMap
    rename_i t hop
    simp only [Option.some.injEq, Prod.mk.injEq] at ha
    obtain ⟨rfl, rfl⟩ := ha
    have := (makeMap_sound (P := P) H t).out
    simpa only [execOp, hop, Option.map_none] using this
  · -- mapUpdate
    rename_i t m k x hop
    rw [hop] at ho
    split at ha
    · rename_i h2 hs
      simp only [Option.some.injEq, Prod.mk.injEq] at ha
      obtain ⟨rfl, rfl⟩ := ha
      obtain ⟨w', r1, r2, r3⟩ := amapUpd_sound H (hE m (ho m (by simp [Op.operands]))) (hE k (ho k (by simp [Op.operands]))) (hE x (ho x (by simp [Op.operands]))) hs
      exact ⟨ρ, undef, w', .skip, by simp [execOp, hop, r1], Or.inr ⟨rfl, rfl⟩, .undef ρ, r2, r3⟩
    · split at ha
      · rename_i h2 hs
        simp only [Option.some.injEq, Prod.mk.injEq] at ha
        obtain ⟨rfl, rfl⟩ := ha
        obtain ⟨w', r1, r2, r3⟩ := amapUpdA_sound H (hE m (ho m (by simp [Op.operands]))) (hE k (ho k (by simp [Op.operands]))) (hE x (ho x (by simp [Op.operands]))) hs
        exact ⟨ρ, undef, w', .skip, by simp [execOp, hop, r1], Or.inr ⟨rfl, rfl⟩, .undef ρ, r2, r3⟩
      · simp at ha
  · -- insert
    rename_i t m k x hop
    rw [hop] at ho
    split at ha
    · rename_i h2 hs
      simp only [Option.some.injEq, Prod.mk.injEq] at ha
      obtain ⟨rfl, rfl⟩ := ha
      obtain ⟨w', r1, r2, r3⟩ := amapUpd_sound H (hE m (ho m (by simp [Op.operands]))) (hE k (ho k (by simp [Op.operands]))) (hE x (ho x (by simp [Op.operands]))) hs
      exact ⟨ρ, undef, w', .skip, by simp [execOp, hop, r1], Or.inr ⟨rfl, rfl⟩, .undef ρ, r2, r3⟩
    · split at ha
      · rename_i h2 hs
        simp only [Option.some.injEq, Prod.mk.injEq] at ha
        obtain ⟨rfl, rfl⟩ := ha
        obtain ⟨w', r1, r2, r3⟩ := amapUpdA_sound H (hE m (ho m (by simp [Op.operands]))) (hE k (ho k (by simp [Op.operands]))) (hE x (ho x (by simp [Op.operands]))) hs
        exact ⟨ρ, undef, w', .skip, by simp [execOp, hop, r1], Or.inr ⟨rfl, rfl⟩, .undef ρ, r2, r3⟩
      · simp at ha
  · -- delete
    rename_i args argTypes hop
    rw [hop] at ho
    split at ha
    · rename_i m k t tys hargs hat
      have hargs : args = #[m, k] := by apply Array.toList_inj.1; simpa using hargs
      have ht : argTypes[0]? = some t := by rw [← Array.getElem?_toList, hat]; rfl
      subst hargs
      split at ha
      · rename_i h2 hc
        simp only [Option.some.injEq, Prod.mk.injEq] at ha
        obtain ⟨rfl, rfl⟩ := ha
        obtain ⟨w', r1, r2, r3⟩ := adelete_sound (P := P) (ty := o.type) (ts := argTypes) H ht (hE m (ho m (by simp [Op.operands, Call.operands]))) (hE k (ho k (by simp [Op.operands, Call.operands]))) hc
        exact ⟨ρ, .tuple #[], w', .value (.tuple #[]), by simp [execOp, hop, resolve, invoke, builtin, r1], Or.inl rfl, LRel.nil.tuple, r2, r3⟩
      · simp at ha
    · simp at ha
  · -- copy
    rename_i args argTypes hop
    rw [hop] at ho
    split at ha
    · rename_i d s t tys hargs hat
      have hargs : args = #[d, s] := by apply Array.toList_inj.1; simpa using hargs
      have ht : argTypes[0]? = some t := by rw [← Array.getElem?_toList, hat]; rfl
      subst hargs
      obtain ⟨w', r1, r2, r3, r4⟩ := acopy_sound (P := P) (ty := o.type) (ts := argTypes) H ht (hE d (ho d (by simp [Op.operands, Call.operands]))) (hE s (ho s (by simp [Op.operands, Call.operands]))) ha
      exact ⟨ρ, v, w', .value v, by simp [execOp, hop, resolve, invoke, builtin, r1], Or.inl rfl, r2, r3, r4⟩
    · simp at ha
  · simp at ha

theorem aop_sound {call : ACall} {ea ec : Operand → Value} (hE : ∀ x, opndOK G x = true → VRel ρ (ea x) (ec x)) (H : HRel G ρ h w) {o : Oper} (ho : operOK G o = true) (hc : notCall o.op) {v : Value} {h' : AHeap} (ha : aop P call ea h o.op = some (v, h')) :
    Out G P ρ h w (execOp ec o) v h' := by
  unfold aop at ha
  split at ha
  · rename_i hop; rw [hop] at hc; exact hc.elim
  · rename_i hop; rw [hop] at hc; exact hc.elim
  · split at ha
    · rename_i v1 hv1
      simp only [Option.some.injEq, Prod.mk.injEq] at ha
      obtain ⟨rfl, rfl⟩ := ha
      obtain ⟨v', h1, h2⟩ := apure_sound hE ho hv1
      exact Out.still H (h1 w) h2
    · split at ha
      · rename_i v1 hv1
        simp only [Option.some.injEq, Prod.mk.injEq] at ha
        obtain ⟨rfl, rfl⟩ := ha
        obtain ⟨v', h1, h2⟩ := aread_sound hE H ho hv1
        exact Out.still H h1 h2
      · exact aeff_sound hE H ho ha
/-- A new object is laid by an operation. -/
def AlN (G : Nat) (P : Program) (ρ : Rho) (w : World) (s : Sem Next) (mk : Nat → Value) (x : AObj) : Prop :=
  ∃ (v' : Value) (oc : Obj) (sh en : Nat), s.run P w = .ok (.value v') (w.alloc oc) ∧ x.own = true ∧ (∀ (ρ' : Rho) (w' : World), RhoLe ρ ρ' → w'.heap[w.heap.size]? = some oc → ObjRel G ρ' w' ⟨w.heap.size, sh, en⟩ x) ∧
    ∀ (ρ' : Rho) (i : Nat), ρ' i = some ⟨w.heap.size, sh, en⟩ → VRel ρ' (mk i) v'
theorem AlV.next {s : Sem Value} {mk : Nat → Value} {x : AObj} (A : AlV G P ρ w s mk x) : AlN G P ρ w (do pure (.value (← s))) mk x := by
  obtain ⟨v', oc, sh, en, hr, q⟩ := A
  exact ⟨v', oc, sh, en, by simp [hr], q⟩
theorem anew_al {cs cs' : List Value} (hc : LRel ρ cs cs') (e : TypeId) {s : Sem Value} (w : World) (hs : s.run P w = .ok (.pointer (some ⟨w.heap.size, 0, none⟩)) (w.alloc (.cells cs'.toArray e))) :
    AlV G P ρ w s (fun i => .pointer (some ⟨i, 0, none⟩)) (.row cs true) := by
  refine ⟨_, _, 0, cs'.length + ([] : List Value).length, hs, rfl, fun ρ' w' hle hw => ?_, fun ρ' i hi => ?_⟩
  · exact row_obj hc [] e hle (by simpa using hw)
  · have := VRel.ptr (ρ := ρ') (o := 0) hi; simpa using this
theorem aal_sound {call : ACall} {ea ec : Operand → Value} (hE : ∀ x, opndOK G x = true → VRel ρ (ea x) (ec x)) {o : Oper} (ho : operOK G o = true) (hal : isAl o.op = true) {v : Value} {h' : AHeap} (ha : aop P call ea h o.op = some (v, h')) :
    ∃ mk x, v = mk h.length ∧ h' = h ++ [x] ∧ ∀ w, AlN G P ρ w (execOp ec o) mk x := by
  have ho : ∀ x ∈ o.op.operands.toList, opndOK G x = true := List.all_eq_true.1 ho
  unfold isAl at hal
  split at hal
  · -- alloc
    rename_i e hop
    rw [hop] at ha
    simp only [aop, apure, aread, aeff] at ha
    split at ha
    · rename_i i hi
      split at ha
      · simp only [Option.some.injEq] at ha
        refine ⟨fun i => .pointer (some ⟨i, 0, none⟩), .row i.zero.cells.toList true, by rw [show v = (anew h i.zero.cells.toList).1 by rw [ha]]; rfl, by rw [show h' = (anew h i.zero.cells.toList).2 by rw [ha]]; rfl, fun w => ?_⟩
        have := (anew_al (G := G) (P := P) (constOK_refl ρ (ti_zero hi)).cells e (s := Instr.alloc e true (.tuple #[])) w (by simp [Instr.alloc, run_zero hi, newVar, newRow])).next
        simpa only [execOp, hop] using this
      · simp at ha
    · simp at ha
  · -- box
    rename_i e x hop
    rw [hop] at ho ha
    have hx := hE x (ho x (by simp [Op.operands]))
    simp only [aop, apure, aread, aeff] at ha
    split at ha
    · simp only [Option.some.injEq] at ha
      refine ⟨fun i => .pointer (some ⟨i, 0, none⟩), .row (ea x).cells.toList true, by rw [show v = (anew h (ea x).cells.toList).1 by rw [ha]]; rfl, by rw [show h' = (anew h (ea x).cells.toList).2 by rw [ha]]; rfl, fun w => ?_⟩
      have := (anew_al (G := G) (P := P) hx.cells e (s := Instr.box e (ec x)) w (by simp [Instr.box, newVar, newRow])).next
      simpa only [execOp, hop] using this
    · simp at ha
  · -- buildSlice
    rename_i t len parts hop
    rw [hop] at ho ha
    simp only [aop, apure, aread, aeff] at ha
    have hall : (parts.toList.map (·.2)).all (opndOK G) = true := by
      rw [List.all_eq_true]
      intro x hx
      rw [List.mem_map] at hx
      obtain ⟨p, hp, rfl⟩ := hx
      exact ho p.2 (by simp only [Op.operands, List.mem_map]; exact ⟨p, hp, rfl⟩)
    obtain ⟨mk, x, e1, e2, A⟩ := abuildSlice_al (G := G) (parts' := parts.toList.map fun p => (p.1, ec p.2)) (by simp) (by have := map_rel hE hall; simpa [List.map_map, Function.comp_def] using this) ha
    refine ⟨mk, x, e1, e2, fun w => ?_⟩
    have e : (parts.toList.map fun p => (p.1, ec p.2)).toArray = parts.map fun (i, x) => (i, ec x) := by
      apply Array.toList_inj.1; simp
    have := (A w).next
    rw [e] at this
    simpa only [execOp, hop] using this
  · -- makeSlice
    rename_i t l c hop
    rw [hop] at ho ha
    simp only [aop, apure, aread, aeff] at ha
    obtain ⟨mk, x, e1, e2, A⟩ := amakeSlice_al (G := G) (hE l (ho l (by simp [Op.operands]))) (hE c (ho c (by simp [Op.operands]))) ha
    refine ⟨mk, x, e1, e2, fun w => ?_⟩
    have := (A w).next
    simpa only [execOp, hop] using this
  · -- makeMap
    rename_i t hop
    rw [hop] at ha
    simp only [aop, apure, aread, aeff, Option.some.injEq, Prod.mk.injEq] at ha
    obtain ⟨rfl, rfl⟩ := ha
    refine ⟨fun i => .map (some i), .amap [], rfl, rfl, fun w => ?_⟩
    have := (makeMap_al (G := G) (P := P) (ρ := ρ) w t).next
    simpa only [execOp, hop, Option.map_none] using this
  · simp at hal
end Go.AM
