/-
  MERGED BY PROGRAM out of the texts Am10 Am11 Am12 Am13 Am14 Am15 Am16.
-/
import Derived.Test.YtpbmpdocgplhpaaGreatDoorMA

/-
  THE ABSTRACT EXECUTOR: every operation but calls of functions.
-/
set_option linter.unusedSimpArgs false
set_option linter.unusedVariables false
namespace Go.AM
variable {P : Program} {ρ : Rho} {G : Nat} {h : AHeap} {w : World}

theorem range0 {α : Type} (f : Nat → α) : Array.map f (Array.range 0) = #[] := by apply Array.eq_empty_of_size_eq_zero; simp

theorem amakeSlice_sound (H : HRel G ρ h w) {t : TypeId} {l l' c c' v : Value} {h' : AHeap} (hl : VRel ρ l l') (hc : VRel ρ c c') (ha : amakeSlice P h t l c = some (v, h')) :
    OutV G P ρ h w (Instr.makeSlice t l' c') v h' := by
  unfold amakeSlice at ha
  split at ha
  · rename_i e s1 s2 s3 l0 c0 ht el ec
    obtain ⟨kl, rfl⟩ := asIdx_run el hl
    obtain ⟨kc, rfl⟩ := asIdx_run ec hc
    split at ha
    · rename_i ie hie
      split at ha
      · rename_i hcond
        obtain ⟨h0, hlc, hlim, hby, hsz⟩ := hcond
        simp only [Option.some.injEq, Prod.mk.injEq] at ha
        obtain ⟨rfl, rfl⟩ := ha
        obtain ⟨hue, i, hi, hs, hbi, hz⟩ := ti_spec hie
        have hlm : lim = 4294967296 := rfl
        have hlb : limBytes = 4096 := rfl
        have w1 : IntKind.i64.wrap l0 = l0 := by have hb : IntKind.i64.bits = 64 := rfl; have hs : IntKind.i64.signed = true := rfl; unfold IntKind.wrap; rw [hb, hs]; simp only [Bool.true_and]; split <;> rename_i hq <;> simp at hq <;> omega
        have w2 : IntKind.i64.wrap c0 = c0 := by have hb : IntKind.i64.bits = 64 := rfl; have hs : IntKind.i64.signed = true := rfl; unfold IntKind.wrap; rw [hb, hs]; simp only [Bool.true_and]; split <;> rename_i hq <;> simp at hq <;> omega
        have hzc := ti_size hie
        have hzr : LRel ρ ie.zero.cells.toList ie.zero.cells.toList := (constOK_refl ρ (ti_zero hie)).cells
        have ear : ((Array.range (c0.toNat * i.size)).map (fun j => ie.zero.cells[j % ie.zero.cells.size]!)) = (zerosOf ie.zero.cells.toList c0.toNat).toArray := by
          apply Array.toList_inj.1
          have := zeros_eq ie.zero.cells (by omega) c0.toNat
          rw [hs, ← hzc]; simpa using this
        have hbt : ∀ n : Int, 0 ≤ n → n ≤ 4294967296 → ¬ ((i.bytes : Int) * n > 281474976710656) := by
          intro n hn hn2
          rw [hbi]
          have hm : (ie.bytes : Int) * n ≤ 4096 * 4294967296 := by
            obtain ⟨m, rfl⟩ := Int.eq_ofNat_of_zero_le hn
            have := Nat.mul_le_mul (show ie.bytes ≤ 4096 by omega) (show m ≤ 4294967296 by omega)
            omega
          omega
        have hrun : (Instr.makeSlice t (.int kl l0) (.int kc c0)).run P w = .ok (.slice (some ⟨w.heap.size, 0, none⟩) l0.toNat c0.toNat) (w.alloc (.cells (zerosOf ie.zero.cells.toList c0.toNat).toArray e)) := by
          have hb1 := hbt c0 (by omega) (by omega)
          have c1 : ¬ (c0 < 0) := by omega
          have c2 : ¬ (l0 < 0) := by omega
          have c3 : ¬ (l0 > c0) := by omega
          simp only [Instr.makeSlice, Sem.run_bind, run_tu ht, Result.andThen_ok, asInt, asIntOf, Sem.run_pure, typeInfo, run_program, hi, w1, w2]
          simp only [gt_iff_lt, Int.reducePow] at hb1 ⊢
          have d1 : decide (c0 < 0) = false := by simp; omega
          have d2 : decide (281474976710656 < (i.bytes : Int) * c0) = false := by simp; omega
          have d3 : decide (l0 < 0) = false := by simp; omega
          have d4 : decide (c0 < l0) = false := by simp; omega
          simp only [d1, d2, d3, d4, Bool.or_false, Bool.or_self, Bool.false_eq_true, if_false, Sem.run_pure, Result.andThen_ok, run_askRoom, Sem.run_bind, sizeOf, typeInfo, run_program, hi]
          by_cases hn0 : c0.toNat * i.size = 0
          · rw [if_pos hn0]
            rw [hn0]
            have hc0 : c0.toNat = 0 := by
              rcases Nat.mul_eq_zero.1 hn0 with e | e
              · exact e
              · omega
            have hl0 : l0.toNat = 0 := by omega
            simp [newRow, hc0, zerosOf, range0]
          · rw [if_neg hn0]
            simp only [Sem.run_bind, run_zero hie, Result.andThen_ok, Sem.run_pure, newRow, run_newObj]
            rw [ear]; rfl
        have hsplit : zerosOf ie.zero.cells.toList c0.toNat = zerosOf ie.zero.cells.toList l0.toNat ++ zerosOf ie.zero.cells.toList (c0.toNat - l0.toNat) := by
          have : ∀ a b, zerosOf ie.zero.cells.toList (a + b) = zerosOf ie.zero.cells.toList a ++ zerosOf ie.zero.cells.toList b := by
            intro a b
            induction a with
            | zero => simp [zerosOf]
            | succ a ih => rw [show a + 1 + b = (a + b) + 1 by omega]; simp [zerosOf, ih]
          rw [← this]; congr 1; omega
        obtain ⟨k1, k2⟩ := new_row H (zerosOf_rel hzr l0.toNat) (zerosOf ie.zero.cells.toList (c0.toNat - l0.toNat)) e
        rw [← hsplit] at k1 k2
        refine ⟨_, _, _, hrun, ?_, k1, k2⟩
        refine VRel.slice (p := ⟨w.heap.size, 0, _⟩) (upd_same _ _ _) (by omega) ?_ ?_
        · simp only [zerosOf_length, Array.length_toList, hzc]
          rw [← Nat.add_mul]
          have : l0.toNat + (c0.toNat - l0.toNat) = c0.toNat := by omega
          rw [this]; omega
        · intro he; split at he
          · rename_i e2; rw [e2]
          · omega
      · simp at ha
    · simp at ha
  · simp at ha

theorem abuildSlice_sound (H : HRel G ρ h w) {t : TypeId} {len : Nat} {parts parts' : List (Nat × Value)} {v : Value} {h' : AHeap}
    (hm : parts.map (·.1) = parts'.map (·.1)) (hv : LRel ρ (parts.map (·.2)) (parts'.map (·.2))) (ha : abuildSlice P h t len parts = some (v, h')) :
    OutV G P ρ h w (Instr.buildSlice t len parts'.toArray) v h' := by
  unfold abuildSlice at ha
  split at ha
  · rename_i e s1 s2 s3 ht
    split at ha
    · rename_i ie hie
      split at ha
      · rename_i hcond
        obtain ⟨hcap, hsz⟩ := hcond
        split at ha
        · rename_i cs hf
          simp only [Option.some.injEq, Prod.mk.injEq] at ha
          obtain ⟨rfl, rfl⟩ := ha
          have hzc := ti_size hie
          have hzr : LRel ρ ie.zero.cells.toList ie.zero.cells.toList := (constOK_refl ρ (ti_zero hie)).cells
          obtain ⟨r', f1, f2⟩ := afill_sound hm hv (zerosOf_rel hzr len) hf
          have ear : ((Array.range (len * ie.size)).map (fun j => ie.zero.cells[j % ie.zero.cells.size]!)) = (zerosOf ie.zero.cells.toList len).toArray := by
            apply Array.toList_inj.1
            have := zeros_eq ie.zero.cells (by omega) len
            rw [← hzc]; simpa using this
          have hlen : ∀ {pl : Nat → Option (Nat × Nat)} {ps : List (Nat × Value)} {a b : List Value}, afill pl a ps = some b → b.length = a.length := by
            intro pl ps
            induction ps with
            | nil => intro a b hab; simp [afill] at hab; rw [hab]
            | cons q ps ih =>
              intro a b hab
              obtain ⟨i, u⟩ := q
              simp only [afill] at hab
              split at hab
              · simp at hab
              · split at hab
                · simp at hab
                · rename_i hcnd
                  simp only [ne_eq, gt_iff_lt, Bool.or_eq_true, decide_eq_true_eq, Bool.not_eq_true', not_or, Decidable.not_not, Nat.not_lt, Bool.not_eq_false] at hcnd
                  rw [ih hab, splice_length (by simp; omega)]
          have hl := hlen hf
          rw [zerosOf_length] at hl
          simp only [Array.length_toList, hzc] at hl
          have hrl := f2.length
          obtain ⟨k1, k2⟩ := new_row0 H f2 e
          refine ⟨_, .slice (some ⟨w.heap.size, 0, none⟩) len len, _, ?_, ?_, k1, k2⟩
          · have hn : ¬ (len * ie.size > 2 ^ 24) := by omega
            simp only [Instr.buildSlice, Sem.run_bind, run_tu ht, Result.andThen_ok, run_size hie, if_neg hn, Sem.run_pure]
            by_cases hn0 : len * ie.size = 0
            · rw [if_pos hn0, hn0]
              have hl0 : len = 0 := by
                rcases Nat.mul_eq_zero.1 hn0 with e | e
                · exact e
                · omega
              subst hl0
              simp only [Sem.run_bind, Sem.run_pure, Result.andThen_ok, range0]
              have : Instr.fill (fun i => some (i * ie.size, ie.size)) #[] parts' = some r'.toArray := by
                simpa [zerosOf] using f1
              rw [this]
              simp [newRow]
            · rw [if_neg hn0]
              simp only [Sem.run_bind, run_zero hie, Result.andThen_ok, Sem.run_pure]
              rw [ear]
              rw [f1]
              simp [newRow]
          · refine VRel.slice (p := ⟨w.heap.size, 0, r'.length⟩) (upd_same _ _ _) (Nat.le_refl _) ?_ (fun _ => rfl)
            simp only [Nat.zero_add]; omega
        · simp at ha
      · simp at ha
    · simp at ha
  · simp at ha

theorem aslot_siter (H : HRel G ρ h w) {r : Nat} {p : Pl} {s : ByteArray} {pos pos' : Nat} (hb : h[r]? = some (.siter s pos)) (hp : ρ r = some p) :
    HRel G ρ (h.set r (.siter s pos')) { w with heap := w.heap.setIfInBounds p.blk (.stringIter s pos') } ∧ Fr ρ h w ρ (h.set r (.siter s pos')) { w with heap := w.heap.setIfInBounds p.blk (.stringIter s pos') } := by
  obtain ⟨g1, g2⟩ := H.obj r _ p hb hp
  refine H.update hb rfl hp (by simp) rfl rfl rfl ?_ rfl ⟨?_, g2⟩
  · intro c hc
    rw [Array.getElem?_setIfInBounds, if_neg (fun e => hc e.symm)]
  · rw [Array.getElem?_setIfInBounds, if_pos rfl, if_pos (H.lt r p hp)]

theorem anext_sound (H : HRel G ρ h w) {it it' v : Value} {h' : AHeap} {ty : TypeId} (hi : VRel ρ it it') (ha : anext h it = some (v, h')) :
    OutV G P ρ h w (Instr.next it' true ty) v h' := by
  unfold anext at ha
  split at ha
  · rename_i r
    split at ha
    · rename_i s pos hb
      cases hi with
      | ptr hp =>
        rename_i p
        obtain ⟨g1, g2⟩ := H.obj r _ p hb hp
        split at ha
        · rename_i hlt
          simp only [Option.some.injEq, Prod.mk.injEq] at ha
          obtain ⟨rfl, rfl⟩ := ha
          obtain ⟨k1, k2⟩ := aslot_siter H (pos' := pos + (Utf8.decode s pos).2) hb hp
          refine ⟨ρ, .tuple #[.bool true, goInt pos, .int .i32 (Utf8.decode s pos).1], _, ?_, ?_, k1, k2⟩
          · rw [g2]
            simp [Instr.next, getObj, setObj, Sem.run, g1, hlt, Nat.add_zero]
          · exact (LRel.cons (.bool _) (.cons (.int _ _) (.cons (.int _ _) .nil))).tuple
        · rename_i hlt
          simp only [Option.some.injEq, Prod.mk.injEq] at ha
          obtain ⟨rfl, rfl⟩ := ha
          refine ⟨ρ, .tuple #[.bool false], w, ?_, (LRel.cons (.bool _) .nil).tuple, H, .refl _ _ _⟩
          rw [g2]
          simp [Instr.next, getObj, Sem.run, g1, hlt]
    · simp at ha
  · simp at ha

theorem range_sound (H : HRel G ρ h w) {t : TypeId} (ht : P.underlying t = some .string) (s : ByteArray) :
    OutV G P ρ h w (Instr.range t (.string s)) (.pointer (some ⟨h.length, 0, none⟩)) (h ++ [.siter s 0]) := by
  obtain ⟨k1, k2⟩ := H.alloc (oc := .stringIter s 0) (oa := .siter s 0) (sh := 0) (en := 0) ⟨heap_push_new w _, rfl⟩
  refine ⟨_, .pointer (some ⟨w.heap.size, 0, none⟩), _, ?_, ?_, k1, k2⟩
  · simp [Instr.range, run_und ht]
  · have := VRel.ptr (ρ := upd ρ h.length ⟨w.heap.size, 0, 0⟩) (o := 0) (upd_same _ _ _); simpa using this

theorem freeze_heap (w : World) (b n : Nat) (c : Array Value) (e : TypeId) (hb : w.heap[b]? = some (.cells c e (0, 0))) :
    (w.freeze ⟨b, n, none⟩ 1).heap[b]? = some (.cells c e (n, n + 1)) ∧ (∀ k, k ≠ b → (w.freeze ⟨b, n, none⟩ 1).heap[k]? = w.heap[k]?) ∧ (w.freeze ⟨b, n, none⟩ 1).heap.size = w.heap.size := by
  unfold World.freeze
  rw [if_neg (by omega)]
  refine ⟨?_, ?_, by simp⟩
  · simp only [Array.getElem?_modify, if_true, hb, Option.map_some]; simp
  · intro k hk; simp only [Array.getElem?_modify]; rw [if_neg (fun e => hk e.symm)]

theorem conv_bytes (H : HRel G ρ h w) {s d e : TypeId} {ds : TypeDesc} (hs : P.underlying s = some ds) (hd : P.underlying d = some (.slice e)) (he : P.underlying e = some (.int .u8)) (b : ByteArray) :
    OutV G P ρ h w (Go.convert s d (.string b)) (.slice (some ⟨h.length, 0, some 1⟩) b.size (b.size + 1)) (h ++ [.row (b.data.toList.map fun c => Value.int .u8 c.toNat) true]) := by
  let cap := grownCap w b.size 0 e
  have hcap : b.size ≤ cap := cut_ge w b.size 0 e
  let cs : List Value := b.data.toList.map fun c => Value.int .u8 c.toNat
  have hlen : cs.length = b.size := by simp [cs]
  have hcs : LRel ρ cs cs := by
    show LRel ρ (b.data.toList.map _) (b.data.toList.map _)
    generalize b.data.toList = l
    induction l with
    | nil => exact .nil
    | cons a l ih => exact .cons (.int _ _) ih
  let w1 := w.drew.alloc (.cells (cs ++ List.replicate (cap - b.size) (Value.int .u8 0)).toArray e)
  have hb1 : w1.heap[w.heap.size]? = some (.cells (cs ++ List.replicate (cap - b.size) (Value.int .u8 0)).toArray e (0, 0)) := heap_push_new w.drew _
  have hsize : (cs ++ List.replicate (cap - b.size) (Value.int .u8 0)).length = cap := by simp [hlen]; omega
  obtain ⟨z1, z2, z3⟩ := freeze_heap w1 w.heap.size cap _ _ hb1
  obtain ⟨k1, k2⟩ := H.drew.alloc (oc := .cells (cs ++ List.replicate (cap - b.size) (Value.int .u8 0)).toArray e (cap, cap + 1)) (oa := .row cs true) (sh := 0) (en := cap) (by
    have hle := H.updLe ⟨w.heap.size, 0, cap⟩
    refine ⟨_, e, (cap, cap + 1), heap_push_new w.drew _, by simp [hlen], ?_, by simp [hlen]; omega, fun _ => ⟨by simp [hlen]; omega, fun o _ ho => by simp at ho ⊢; omega⟩⟩
    intro i v hi
    obtain ⟨v', h1, h2⟩ := (hcs.mono hle).get? hi
    refine ⟨v', ?_, h2⟩
    have : i < cs.length := by
      rcases Nat.lt_or_ge i cs.length with e | e
      · exact e
      · rw [List.getElem?_eq_none e] at h1; simp at h1
    simp only [Nat.zero_add, List.getElem?_toArray]
    rw [List.getElem?_append_left this]; exact h1)
  have ew : w1.freeze ⟨w.heap.size, cap, none⟩ 1 = w.drew.alloc (.cells (cs ++ List.replicate (cap - b.size) (Value.int .u8 0)).toArray e (cap, cap + 1)) := by
    unfold World.freeze
    rw [if_neg (by omega)]
    show World.mk _ _ _ _ _ = World.mk _ _ _ _ _
    congr 1
    apply Array.ext_getElem?
    intro i
    rw [Array.getElem?_modify]
    show (if w.heap.size = i then _ else (w.heap.push _)[i]?) = (w.heap.push _)[i]?
    by_cases hi : w.heap.size = i
    · subst hi
      rw [if_pos rfl, hb1]
      simp
    · rw [if_neg hi, Array.getElem?_push, Array.getElem?_push, if_neg (fun e => hi e.symm), if_neg (fun e => hi e.symm)]
  refine ⟨_, .slice (some ⟨w.heap.size, 0, none⟩) b.size cap, _, ?_, ?_, k1, (Fr.drew ρ h w).trans k2⟩
  · simp only [Go.convert, Sem.run_bind, run_und hs, run_und hd, Result.andThen_ok]
    have hgo : (Conv.stringToBytes e b).run P w = .ok (.slice (some ⟨w.heap.size, 0, none⟩) b.size cap) (w.drew.alloc (.cells (cs ++ List.replicate (cap - b.size) (Value.int .u8 0)).toArray e (cap, cap + 1))) := by
      have earr : (Array.map (fun b : UInt8 => Value.int .u8 b.toNat) b.data) ++ Array.replicate (cap - b.size) (Value.int .u8 0) = (cs ++ List.replicate (cap - b.size) (Value.int .u8 0)).toArray := by
        apply Array.toList_inj.1; simp [cs]
      have hsh : w1.shape? w.heap.size = some (e, cap) := by simp [World.shape?, hb1, hlen]; omega
      simp only [Conv.stringToBytes, Sem.run_bind, run_choose, Question.forced, Bool.false_eq_true, if_false, Result.andThen_ok]
      show ((newRow e (_ ++ Array.replicate (cap - b.size) (Value.int .u8 0))).run P w.drew).andThen _ = _
      rw [earr]
      simp only [newRow, Sem.run_bind, run_newObj, Result.andThen_ok, Sem.run_pure, markStringish, run_shape]
      show ((match w1.shape? w.heap.size with | some (_, n) => _ | _ => _ : Sem Unit).run P w1).andThen _ = _
      rw [hsh]
      simp only [run_freeze, Result.andThen_ok, Sem.run_pure]
      exact congrArg (Result.ok _) ew
    cases ds <;> simp only [Sem.run_bind, run_und he, Result.andThen_ok, hgo]
  · refine VRel.slice (p := ⟨w.heap.size, 0, cap⟩) (upd_same _ _ _) hcap (by simp) (by omega)

/-- An operation that is no call of a function value. -/
def notCall : Op → Prop
  | .call { callee := .value _, .. } => False
  | _ => True

theorem run_pushes (f : Value → ByteArray → Sem (ForInStep ByteArray)) (hf : ∀ n s, f (.int .u8 n) s = pure (ForInStep.yield (s.push (UInt8.ofNat n.toNat)))) : ∀ (cs : List Value) (l : List UInt8) (s : ByteArray), bytesL cs = some l →
    (forIn cs s f : Sem ByteArray).run P w = .ok ⟨⟨s.data.toList ++ l⟩⟩ w := by
  intro cs
  induction cs with
  | nil => intro l s hb; simp only [bytesL, Option.some.injEq] at hb; subst hb; simp
  | cons c cs ih =>
    intro l s hb
    simp only [bytesL] at hb
    split at hb
    · rename_i n r hr
      simp only [Option.some.injEq] at hb; subst hb
      simp only [List.forIn_cons, Sem.run_bind, hf]
      have := ih r (s.push (UInt8.ofNat n.toNat)) hr
      simp [this]
    · simp at hb
theorem bytes_rel {cs cs' : List Value} (h : LRel ρ cs cs') : ∀ {l : List UInt8}, bytesL cs = some l → bytesL cs' = some l := by
  induction h with
  | nil => intro l h; exact h
  | cons hv _ ih =>
    intro l hb
    simp only [bytesL] at hb ⊢
    split at hb
    · rename_i n r hr
      cases hv
      simp only [ih hr]; exact hb
    · simp at hb
theorem abytes_sound (H : HRel G ρ h w) {s d : TypeId} {x x' v : Value} (hx : VRel ρ x x') (ha : abytes P h s d x = some v) :
    ∃ v', (Go.convert s d x').run P w = .ok v' w ∧ VRel ρ v v' := by
  unfold abytes at ha
  split at ha
  · rename_i e a k hs hd
    split at ha
    · rename_i he
      simp only [Option.some.injEq] at ha; subst ha
      cases hx
      refine ⟨.string .empty, ?_, .string _⟩
      simp [Go.convert, run_und hs, run_und hd, run_und he, Conv.bytesToString]
    · simp at ha
  · rename_i e b o sz n k hs hd
    split at ha
    · rename_i he
      cases hc : (Nat.beq sz 1 && Nat.blt 0 n) with
      | false => rw [hc] at ha; simp at ha
      | true =>
        rw [hc] at ha
        simp only [cond_true] at ha
        simp only [Bool.and_eq_true] at hc
        have hn : 0 < n := Nat.le_of_ble_eq_true hc.2
        split at ha
        · rename_i cs hcs
          split at ha
          · rename_i l hl
            simp only [Option.some.injEq] at ha; subst ha
            cases hx with
            | slice hp hle hcp hk =>
              obtain ⟨cs', h1, h2, h3, _⟩ := loadN_sound (P := P) H hp hcs
              refine ⟨.string ⟨⟨l⟩⟩, ?_, .string _⟩
              simp only [Go.convert, Sem.run_bind, run_und hs, run_und hd, run_und he, Result.andThen_ok, Conv.bytesToString, h1, List.forIn_toArray]
              rw [run_pushes (P := P) (w := w) _ (fun n s => rfl) cs' l ByteArray.empty (bytes_rel h2 hl)]
              simp
            | slice0 => omega
          · simp at ha
        · simp at ha
    · simp at ha
  · simp at ha
theorem aread_sound {ea ec : Operand → Value} (hE : ∀ x, opndOK G x = true → VRel ρ (ea x) (ec x)) (H : HRel G ρ h w) {o : Oper} (ho : operOK G o = true) {v : Value} (ha : aread P ea h o.op = some v) :
    ∃ v', (execOp ec o).run P w = .ok (.value v') w ∧ VRel ρ v v' := by
  have ho : ∀ x ∈ o.op.operands.toList, opndOK G x = true := List.all_eq_true.1 ho
  unfold aread at ha
  split at ha
  · rename_i t a hop
    rw [hop] at ho
    obtain ⟨v', h1, _, h2⟩ := aload_sound H (hE a (ho a (by simp [Op.operands]))) ha
    exact ⟨v', by simp [execOp, hop, h1], h2⟩
  · rename_i t x lo hi mx hop
    rw [hop] at ho
    obtain ⟨l1, l2⟩ := opt_rel (ρ := ρ) hE (o := lo) (fun y hy => ho y (by simp [Op.operands, hy]))
    obtain ⟨m1, m2⟩ := opt_rel (ρ := ρ) hE (o := hi) (fun y hy => ho y (by simp [Op.operands, hy]))
    obtain ⟨n1, n2⟩ := opt_rel (ρ := ρ) hE (o := mx) (fun y hy => ho y (by simp [Op.operands, hy]))
    obtain ⟨v', h1, h2⟩ := asliceArr_sound H (hE x (ho x (by simp [Op.operands]))) l1 m1 l2 m2 n2 ha
    exact ⟨v', by simp [execOp, hop, h1], h2⟩
  · rename_i t m k ok hop
    rw [hop] at ho
    obtain ⟨v', h1, h2⟩ := alookup_sound H (hE m (ho m (by simp [Op.operands]))) (hE k (ho k (by simp [Op.operands]))) ha
    exact ⟨v', by simp [execOp, hop, h1], h2⟩
  · rename_i args argTypes hop
    rw [hop] at ho
    split at ha
    · rename_i x t hargs hat
      have hargs : args = #[x] := by apply Array.toList_inj.1; simpa using hargs
      have htys : argTypes = #[t] := by apply Array.toList_inj.1; simpa using hat
      subst hargs htys
      obtain ⟨h1, h2⟩ := alenMap_sound (P := P) (ty := o.type) H (hE x (ho x (by simp [Op.operands, Call.operands]))) ha
      exact ⟨v, by simp [execOp, hop, resolve, invoke, builtin, h1], h2⟩
    · simp at ha
  · rename_i s d x hop
    rw [hop] at ho
    obtain ⟨v', h1, h2⟩ := abytes_sound H (hE x (ho x (by simp [Op.operands]))) ha
    exact ⟨v', by simp [execOp, hop, h1], h2⟩
  · simp at ha

theorem aeff_sound {ea ec : Operand → Value} (hE : ∀ x, opndOK G x = true → VRel ρ (ea x) (ec x)) (H : HRel G ρ h w) {o : Oper} (ho : operOK G o = true) {v : Value} {h' : AHeap} (ha : aeff P ea h o.op = some (v, h')) :
    Out G P ρ h w (execOp ec o) v h' := by
  have ho : ∀ x ∈ o.op.operands.toList, opndOK G x = true := List.all_eq_true.1 ho
  unfold aeff at ha
  split at ha
  · -- alloc
    rename_i e hop
    split at ha
    · rename_i i hi
      split at ha
      · simp only [Option.some.injEq] at ha
        rw [show v = (anew h i.zero.cells.toList).1 by rw [ha], show h' = (anew h i.zero.cells.toList).2 by rw [ha]]
        refine anew_sound H (constOK_refl ρ (ti_zero hi)).cells e ?_
        simp [execOp, hop, Instr.alloc, run_zero hi, newVar, newRow]
      · simp at ha
    · simp at ha
  · -- box
    rename_i e x hop
    rw [hop] at ho
    have hx := hE x (ho x (by simp [Op.operands]))
    split at ha
    · simp only [Option.some.injEq] at ha
      rw [show v = (anew h (ea x).cells.toList).1 by rw [ha], show h' = (anew h (ea x).cells.toList).2 by rw [ha]]
      refine anew_sound H hx.cells e ?_
      simp [execOp, hop, Instr.box, newVar, newRow]
    · simp at ha
  · -- buildSlice
    rename_i t len parts hop
    rw [hop] at ho
    have hall : (parts.toList.map (·.2)).all (opndOK G) = true := by
      rw [List.all_eq_true]
      intro x hx
      rw [List.mem_map] at hx
      obtain ⟨p, hp, rfl⟩ := hx
      exact ho p.2 (by simp only [Op.operands, List.mem_map]; exact ⟨p, hp, rfl⟩)
    have := abuildSlice_sound H (parts' := parts.toList.map fun p => (p.1, ec p.2)) (by simp) (by have := map_rel hE hall; simpa [List.map_map, Function.comp_def] using this) ha
    have e : (parts.toList.map fun p => (p.1, ec p.2)).toArray = parts.map fun (i, x) => (i, ec x) := by
      apply Array.toList_inj.1; simp
    rw [e] at this
    have := this.out
    simpa only [execOp, hop] using this
  · -- store
    rename_i t a x hop
    rw [hop] at ho
    split at ha
    · rename_i h2 hs
      simp only [Option.some.injEq, Prod.mk.injEq] at ha
      obtain ⟨rfl, rfl⟩ := ha
      obtain ⟨w', r1, r2, r3⟩ := astore_sound H (hE a (ho a (by simp [Op.operands]))) (hE x (ho x (by simp [Op.operands]))) hs
      exact ⟨ρ, undef, w', .skip, by simp [execOp, hop, r1], Or.inr ⟨rfl, rfl⟩, .undef ρ, r2, r3⟩
    · simp at ha
  · -- makeSlice
    rename_i t l c hop
    rw [hop] at ho
    have := (amakeSlice_sound H (hE l (ho l (by simp [Op.operands]))) (hE c (ho c (by simp [Op.operands]))) ha).out
    simpa only [execOp, hop] using this
  · -- range
    rename_i t x hop
    rw [hop] at ho
    have hx := hE x (ho x (by simp [Op.operands]))
    split at ha
    · rename_i s hu hxs
      simp only [Option.some.injEq, Prod.mk.injEq] at ha
      obtain ⟨rfl, rfl⟩ := ha
      rw [hxs] at hx
      generalize hcc : ec x = cc at hx
      cases hx
      have := (range_sound H hu s).out
      simpa only [execOp, hop, hcc] using this
    · simp at ha
  · -- next
    rename_i it hop
    rw [hop] at ho
    have := (anext_sound (P := P) (ty := o.type) H (hE it (ho it (by simp [Op.operands]))) ha).out
    simpa only [execOp, hop] using this
  · -- convert
    rename_i s d x hop
    rw [hop] at ho
    have hx := hE x (ho x (by simp [Op.operands]))
    split at ha
    · rename_i ds e b hs hd hxb
      split at ha
      · rename_i he
        split at ha
        · simp only [Option.some.injEq, Prod.mk.injEq] at ha
          obtain ⟨rfl, rfl⟩ := ha
          rw [hxb] at hx
          generalize hcc : ec x = cc at hx
          cases hx
          have := (conv_bytes H hs hd he b).out
          simpa only [execOp, hop, hcc] using this
        · simp at ha
      · simp at ha
    · simp at ha
  · -- append
    rename_i args argTypes hop
    rw [hop] at ho
    split at ha
    · rename_i s x sT xT hargs hat
      have hargs : args = #[s, x] := by apply Array.toList_inj.1; simpa using hargs
      have htys : argTypes = #[sT, xT] := by apply Array.toList_inj.1; simpa using hat
      subst hargs htys
      split at ha
      · simp at ha
      · rename_i d hnd hu
        have := (aappend_sound (ty := o.type) H hu (fun k e => hnd k e) (hE s (ho s (by simp [Op.operands, Call.operands]))) (hE x (ho x (by simp [Op.operands, Call.operands]))) ha)
        obtain ⟨ρ', v', w', k1, k2, k3, k4⟩ := this
        exact ⟨ρ', v', w', .value v', by simp [execOp, hop, resolve, invoke, builtin, k1], Or.inl rfl, k2, k3, k4⟩
      · simp at ha
    · simp at ha
  · -- clear
    rename_i args argTypes hop
    rw [hop] at ho
    split at ha
    · rename_i x t hargs hat
      have hargs : args = #[x] := by apply Array.toList_inj.1; simpa using hargs
      have htys : argTypes = #[t] := by apply Array.toList_inj.1; simpa using hat
      subst hargs htys
      split at ha
      · rename_i h2 hc
        simp only [Option.some.injEq, Prod.mk.injEq] at ha
        obtain ⟨rfl, rfl⟩ := ha
        obtain ⟨w', r1, r2, r3⟩ := aclear_sound (P := P) (ty := o.type) (ts := #[t]) H rfl (hE x (ho x (by simp [Op.operands, Call.operands]))) hc
        exact ⟨ρ, .tuple #[], w', .value (.tuple #[]), by simp [execOp, hop, resolve, invoke, builtin, r1], Or.inl rfl, LRel.nil.tuple, r2, r3⟩
      · simp at ha
    · simp at ha
  · -- makeMap
    rename_i t hop
    simp only [Option.some.injEq, Prod.mk.injEq] at ha
    obtain ⟨rfl, rfl⟩ := ha
    have := (makeMap_sound (P := P) H t).out
    simpa only [execOp, hop, Option.map_none] using this
  · -- mapUpdate
    rename_i t m k x hop
    rw [hop] at ho
    split at ha
    · rename_i h2 hs
      simp only [Option.some.injEq, Prod.mk.injEq] at ha
      obtain ⟨rfl, rfl⟩ := ha
      obtain ⟨w', r1, r2, r3⟩ := amapUpd_sound H (hE m (ho m (by simp [Op.operands]))) (hE k (ho k (by simp [Op.operands]))) (hE x (ho x (by simp [Op.operands]))) hs
      exact ⟨ρ, undef, w', .skip, by simp [execOp, hop, r1], Or.inr ⟨rfl, rfl⟩, .undef ρ, r2, r3⟩
    · simp at ha
  · -- insert
    rename_i t m k x hop
    rw [hop] at ho
    split at ha
    · rename_i h2 hs
      simp only [Option.some.injEq, Prod.mk.injEq] at ha
      obtain ⟨rfl, rfl⟩ := ha
      obtain ⟨w', r1, r2, r3⟩ := amapUpd_sound H (hE m (ho m (by simp [Op.operands]))) (hE k (ho k (by simp [Op.operands]))) (hE x (ho x (by simp [Op.operands]))) hs
      exact ⟨ρ, undef, w', .skip, by simp [execOp, hop, r1], Or.inr ⟨rfl, rfl⟩, .undef ρ, r2, r3⟩
    · simp at ha
  · simp at ha

theorem aop_sound {call : ACall} {ea ec : Operand → Value} (hE : ∀ x, opndOK G x = true → VRel ρ (ea x) (ec x)) (H : HRel G ρ h w) {o : Oper} (ho : operOK G o = true) (hc : notCall o.op) {v : Value} {h' : AHeap} (ha : aop P call ea h o.op = some (v, h')) :
    Out G P ρ h w (execOp ec o) v h' := by
  unfold aop at ha
  split at ha
  · rename_i hop; rw [hop] at hc; exact hc.elim
  · split at ha
    · rename_i v1 hv1
      simp only [Option.some.injEq, Prod.mk.injEq] at ha
      obtain ⟨rfl, rfl⟩ := ha
      obtain ⟨v', h1, h2⟩ := apure_sound hE ho hv1
      exact Out.still H (h1 w) h2
    · split at ha
      · rename_i v1 hv1
        simp only [Option.some.injEq, Prod.mk.injEq] at ha
        obtain ⟨rfl, rfl⟩ := ha
        obtain ⟨v', h1, h2⟩ := aread_sound hE H ho hv1
        exact Out.still H h1 h2
      · exact aeff_sound hE H ho ha
end Go.AM

/-
  THE ABSTRACT EXECUTOR: regions, calls, code.
-/
set_option linter.unusedSimpArgs false
set_option linter.unusedVariables false
namespace Go.AM
variable {P : Program} {G : Nat}

/-- The first blocks of the world are as they were at the start. -/
def Kept (G : Nat) (W0 w : World) : Prop := ∀ c, c < G → w.heap[c]? = W0.heap[c]?

theorem Fr.kept {ρ ρ' : Rho} {h h' : AHeap} {w w' W0 : World} (F : Fr ρ h w ρ' h' w') (H : HRel G ρ h w) (K : Kept G W0 w) : Kept G W0 w' := by
  intro c hc
  rw [F.keep c (Nat.lt_of_lt_of_le hc H.gsz) (fun b o p hb ho hp e => by have := H.gown b o p hb hp ho; omega)]
  exact K c hc

theorem LRel.eval {ρ : Rho} {h : AHeap} {w : World} (H : HRel G ρ h w) {t : List Value} {a : Act} (ht : LRel ρ t a.tmps.toList) : ∀ x, opndOK G x = true → VRel ρ (aeval t x) (a.eval x) := by
  intro x hx
  cases x with
  | tmp i =>
    have := ht.getD i
    simpa [aeval, Act.eval] using this
  | const v => exact constOK_refl ρ hx
  | global g =>
    obtain ⟨en, he⟩ := H.glob g (by simpa [opndOK] using hx)
    have := VRel.ptr (ρ := ρ) (o := 0) he
    simpa [aeval, Act.eval] using this
  | func f => exact .func f rfl rfl (fun i h => by simp at h) (fun i h => by simp at h)

theorem LRel.put {ρ : Rho} {t : List Value} {a : Act} {v v' : Value} (ht : LRel ρ t a.tmps.toList) (hv : VRel ρ v v') (d : Option Tmp) : LRel ρ (aput t d v) (a.put d v').tmps.toList := by
  cases d with
  | none => exact ht
  | some d => simpa [aput, Act.put] using ht.set hv d

theorem put_defers (a : Act) (d : Option Tmp) (v : Value) : (a.put d v).defers = a.defers := by cases d <;> rfl

theorem yielded_eq {ρ : Rho} {t : List Value} {a : Act} (ht : LRel ρ t a.tmps.toList) (ops : Array Oper) : yielded ops a.tmps = ayielded ops t := by
  funext j
  unfold yielded ayielded
  cases hd : (ops[j]?).bind (·.dst) with
  | none => rfl
  | some d =>
    simp only [Option.bind_some]
    cases hv : t[d]? with
    | none =>
      have := ht.none? hv
      have e : a.tmps[d]? = none := by simpa using this
      rw [e]
    | some v =>
      obtain ⟨v', h1, h2⟩ := ht.get? hv
      have e : a.tmps[d]? = some v' := by simpa using h1
      rw [e]
      cases h2 <;> rfl

/-- A call of a function, as it is entered and as it ends. -/
def FnOK (P : Program) (G : Nat) (ρ : Rho) (h : AHeap) (w : World) (f : FuncId) (args' : Array Value) (v : Value) (h' : AHeap) : Prop :=
  (callFunc f args').run P w = .ok (.enter f args') w ∧
  ∀ cs, ∃ (ρ' : Rho) (v' : Value) (w' : World) (fr : Frame), VRel ρ' v v' ∧ HRel G ρ' h' w' ∧ Fr ρ h w ρ' h' w' ∧
    Steps P (lone (Frame.enter P f args' .normal) cs w) (lone fr cs w') ∧ fr.fn = f ∧ fr.leaving P w' (.returned v')

/-- A call of yield: a round. -/
def YOK (P : Program) (G : Nat) (ρ : Rho) (h : AHeap) (w : World) (l : Nat) (args' : Array Value) (v : Value) (h' : AHeap) : Prop :=
  ∃ (p : Pl) (fn : FuncId) (tmps : Array Value) (as bd : Code), ρ l = some p ∧ (Instr.yield p.blk args').run P w = .ok (.round p.blk fn tmps as bd) w ∧
  ∀ c cs, ∃ (ρ' : Rho) (v' : Value) (w' : World), VRel ρ' v v' ∧ HRel G ρ' h' w' ∧ Fr ρ h w ρ' h' w' ∧
    Steps P (lone (Frame.round p.blk fn tmps as bd .normal) (c :: cs) w) (lone (c.finish v') cs w')

def CallOK (P : Program) (G : Nat) (W0 : World) (call : ACall) : Prop :=
  ∀ (g : Tg) (args : List Value) (h : AHeap) (v : Value) (h' : AHeap), call g args h = some (v, h') →
    ∀ (ρ : Rho) (w : World) (args' : Array Value), HRel G ρ h w → Kept G W0 w → LRel ρ args args'.toList →
      match g with
      | .fn f => FnOK P G ρ h w f args' v h'
      | .yield l => YOK P G ρ h w l args' v h'

/-- One operation of a region. -/
theorem op_step {W0 : World} {call : ACall} (hcall : CallOK P G W0 call) {ρ : Rho} {h h' : AHeap} {w : World} {t : List Value} {a : Act} (H : HRel G ρ h w) (K : Kept G W0 w) (ht : LRel ρ t a.tmps.toList)
    {ops : Array Oper} {i : Nat} {rest : List Nat} {o : Oper} (hi : ops[i]? = some o) (ho : operOK G o = true) (hw : Region.wanted o (ayielded ops t) = true) {v : Value} (ha : aop P call (aeval t) h o.op = some (v, h'))
    (b : Frame) (k : List Item) (cs : List Frame) :
    ∃ (ρ' : Rho) (v' : Value) (w' : World), VRel ρ' v v' ∧ HRel G ρ' h' w' ∧ Fr ρ h w ρ' h' w' ∧
      Steps P (lone (b.atR a (.inRegion ops (i :: rest) :: k)) cs w) (lone (b.atR (a.put o.dst v') (.inRegion ops rest :: k)) cs w') := by
  have hE := LRel.eval H ht
  have hw' : Region.wanted o (yielded ops a.tmps) = true := by rw [yielded_eq ht]; exact hw
  have hg := stepGR_op (P := P) (b := b) (a := a) (k := k) (cs := cs) (w := w) (rest := rest) hi hw'
  have hfin : ∀ u, (b.atR a (.inRegion ops (i :: rest) :: k)).finish u = b.atR (a.put o.dst u) (.inRegion ops rest :: k) := by
    intro u; rw [Frame.finish_atR, hi]; rfl
  by_cases hnc : notCall o.op
  · obtain ⟨ρ', v', w', nx, r1, r2, r3, r4, r5⟩ := aop_sound (call := call) hE H ho hnc ha
    have hnd : ∀ c, o.op ≠ .defer c := by
      intro c e
      rw [e] at ha
      simp [aop, apure, aread, aeff] at ha
    rw [Oper.semAt_eq _ _ _ hnd] at hg
    refine ⟨ρ', v', w', r3, r4, r5, .one (step_lone_go ?_)⟩
    rw [hg, ← hfin]
    rcases r2 with rfl | ⟨rfl, rfl⟩
    · simp [stepG.apply, r1, Sem.runT_eq]
    · simp [stepG.apply, r1, Sem.runT_eq]
  · -- a call of a function value
    cases hop : o.op with
    | call c =>
      obtain ⟨callee, args, argTypes⟩ := c
      cases callee with
      | value f =>
        rw [hop] at ha
        have hnd : ∀ c, o.op ≠ .defer c := by rw [hop]; simp
        rw [Oper.semAt_eq _ _ _ hnd] at hg
        have ho' : ∀ x ∈ o.op.operands.toList, opndOK G x = true := List.all_eq_true.1 ho
        rw [hop] at ho'
        have hf := hE f (ho' f (by simp [Op.operands, Call.operands]))
        have hargs : LRel ρ (args.toList.map (aeval t)) (args.toList.map a.eval) := by
          refine map_rel hE (G := G) ?_
          rw [List.all_eq_true]; intro x hx; exact ho' x (by simp [Op.operands, Call.operands]; exact Or.inr (by simpa using hx))
        simp only [aop] at ha
        unfold callValue at ha
        split at ha
        · -- a function
          rename_i g first captured hfv
          rw [hfv] at hf
          generalize hcc : a.eval f = cc at hf
          cases hf with
          | func _ hx hy h1 h2 =>
            rename_i first' captured'
            have hall : LRel ρ (first.toList ++ args.toList.map (aeval t) ++ captured.toList) (first' ++ args.map a.eval ++ captured').toList := by
              simp only [Array.toList_append, Array.toList_map]
              exact ((LRel.toArray hx h1).append hargs).append (LRel.toArray hy h2)
            obtain ⟨e1, e2⟩ := hcall (.fn g) _ _ _ _ ha ρ w _ H K hall
            obtain ⟨ρ', v', w', fr, r1, r2, r3, r4, r5, r6⟩ := e2 (b.atR a (.inRegion ops (i :: rest) :: k) :: cs)
            refine ⟨ρ', v', w', r1, r2, r3, ?_⟩
            refine .head (m₁ := lone (Frame.enter P g (first' ++ args.map a.eval ++ captured') .normal) (b.atR a (.inRegion ops (i :: rest) :: k) :: cs) w) (step_lone_go ?_) (r4.trans (.one ?_))
            · rw [hg]
              have : (execOp a.eval o).run P w = .ok (.enter g (first' ++ args.map a.eval ++ captured')) w := by
                simp only [execOp, hop, resolve, hcc, Deferred.ofValue, Sem.run_bind, Sem.run_pure, Result.andThen_ok, invoke]
                exact e1
              simp [stepG.apply, this, Sem.runT_eq, Frame.atR]
            · rw [← hfin]; exact step_leave_returned r6
        · -- yield
          rename_i l fi ca hfv
          rw [hfv] at hf
          generalize hcc : a.eval f = cc at hf
          cases hf with
          | yield hp =>
            rename_i p
            have hall : LRel ρ (args.toList.map (aeval t)) (args.map a.eval).toList := by simpa using hargs
            obtain ⟨p2, fn, tmps, as, bd, q1, q2, q3⟩ := hcall (.yield l) _ _ _ _ ha ρ w _ H K hall
            rw [hp] at q1
            simp only [Option.some.injEq] at q1
            subst q1
            obtain ⟨ρ', v', w', r1, r2, r3, r4⟩ := q3 (b.atR a (.inRegion ops (i :: rest) :: k)) cs
            refine ⟨ρ', v', w', r1, r2, r3, ?_⟩
            rw [← hfin]
            refine .head (m₁ := lone (Frame.round p.blk fn tmps as bd .normal) (b.atR a (.inRegion ops (i :: rest) :: k) :: cs) w) (step_lone_go ?_) r4
            rw [hg]
            have : (execOp a.eval o).run P w = .ok (.round p.blk fn tmps as bd) w := by
              simp only [execOp, hop, resolve, hcc, Deferred.ofValue, Sem.run_bind, Sem.run_pure, Result.andThen_ok, invoke]
              simpa using q2
            simp [stepG.apply, this, Sem.runT_eq, Frame.atR]
        · simp at ha
      | _ => rw [hop] at hnc; exact absurd trivial hnc
    | _ => rw [hop] at hnc; exact absurd trivial hnc

/-- A region's operations in a given order. -/
theorem aops_sound {W0 : World} {call : ACall} (hcall : CallOK P G W0 call) {ops : Array Oper} (hops : ops.toList.all (operOK G) = true) : ∀ (l : List Nat) {s s' : St} {ρ : Rho} {w : World} {a : Act}, aops P call ops l s = some s' →
    HRel G ρ s.h w → Kept G W0 w → LRel ρ s.t a.tmps.toList → ∀ (b : Frame) (k : List Item) (cs : List Frame),
    ∃ (ρ' : Rho) (a' : Act) (w' : World), HRel G ρ' s'.h w' ∧ LRel ρ' s'.t a'.tmps.toList ∧ a'.defers = a.defers ∧ Fr ρ s.h w ρ' s'.h w' ∧
      Steps P (lone (b.atR a (.inRegion ops l :: k)) cs w) (lone (b.atR a' k) cs w') := by
  intro l
  induction l with
  | nil =>
    intro s s' ρ w a h H K ht b k cs
    simp only [aops, Option.some.injEq] at h; subst h
    exact ⟨ρ, a, w, H, ht, rfl, .refl _ _ _, .one stepR_region_end⟩
  | cons i rest ih =>
    intro s s' ρ w a h H K ht b k cs
    simp only [aops] at h
    split at h
    · simp at h
    · rename_i o hi
      have ho : operOK G o = true := by
        have hm : o ∈ ops.toList := by rw [Array.mem_toList_iff]; exact Array.mem_of_getElem? hi
        exact List.all_eq_true.1 hops o hm
      split at h
      · rename_i hw
        split at h
        · rename_i v h1 ha
          obtain ⟨ρ', v', w', r1, r2, r3, r4⟩ := op_step hcall H K ht hi ho hw ha (rest := rest) b k cs
          obtain ⟨ρ2, a2, w2, q1, q2, q3, q4, q5⟩ := ih h r2 (r3.kept H K) ((ht.mono r3.ext).put r1 o.dst) b k cs
          exact ⟨ρ2, a2, w2, q1, q2, q3.trans (put_defers _ _ _), r3.trans q4, r4.trans q5⟩
        · simp at h
      · rename_i hw
        have hw' : Region.wanted o (yielded ops a.tmps) = false := by rw [yielded_eq ht]; simpa using hw
        obtain ⟨ρ2, a2, w2, q1, q2, q3, q4, q5⟩ := ih h H K (ht.put (.undef ρ) o.dst) b k cs
        refine ⟨ρ2, a2, w2, q1, q2, q3.trans (put_defers _ _ _), q4, .head ?_ q5⟩
        have := stepR_op_skip (P := P) (b := b) (a := a) (k := k) (cs := cs) (w := w) (ops := ops) (i := i) (rest := rest) (by simp [hi, hw'])
        rw [hi] at this
        exact this
end Go.AM

/-
  THE ABSTRACT EXECUTOR: a region that draws its order comes, in whatever order, to what the text's order comes to.
-/
set_option linter.unusedSimpArgs false
set_option linter.unusedVariables false
namespace Go.AM
variable {P : Program} {G : Nat}

mutual
theorem same_eq {a b : Value} (h : same a b = true) : a = b := by
  cases a <;> cases b <;> simp only [same, Bool.and_eq_true, beq_iff_eq, Bool.false_eq_true] at h
  · rw [h]
  · obtain ⟨rfl, rfl⟩ := h; rfl
  · obtain ⟨rfl, rfl⟩ := h; rfl
  · obtain ⟨⟨rfl, rfl⟩, rfl⟩ := h; rfl
  · rename_i s t
    cases s; cases t; simp only [Value.string.injEq, ByteArray.mk.injEq]; exact Array.toList_inj.1 h
  · rw [h]
  · obtain ⟨⟨rfl, rfl⟩, rfl⟩ := h; rfl
  · rw [h]
  · rw [h]
  · obtain ⟨⟨rfl, h1⟩, h2⟩ := h
    rw [sameA_eq h1, sameA_eq h2]
  · rfl
  · obtain ⟨rfl, h1⟩ := h
    rw [same_eq h1]
  · rfl
  · rw [sameA_eq h]
  · rw [sameA_eq h]
theorem sameA_eq {a b : Array Value} (h : sameA a b = true) : a = b := by
  cases a; cases b; simp only [sameA] at h; rw [sameL_eq h]
theorem sameL_eq {a b : List Value} (h : sameL a b = true) : a = b := by
  cases a <;> cases b <;> simp only [sameL, Bool.and_eq_true, Bool.false_eq_true] at h
  · rfl
  · rw [same_eq h.1, sameL_eq h.2]
end
mutual
theorem same_refl (a : Value) : same a a = true := by
  cases a <;> simp only [same, Bool.and_eq_true, beq_self_eq_true, and_self, true_and]
  · exact ⟨sameA_refl _, sameA_refl _⟩
  · exact same_refl _
  · exact sameA_refl _
  · exact sameA_refl _
theorem sameA_refl (a : Array Value) : sameA a a = true := by
  cases a; simp only [sameA]; exact sameL_refl _
theorem sameL_refl (a : List Value) : sameL a a = true := by
  cases a <;> simp only [sameL, Bool.and_eq_true]
  exact ⟨same_refl _, sameL_refl _⟩
end

/-! ### What must come before -/
theorem foldl_bits (acc : List Nat) (j : Nat) : ∀ (es : List Edge) (s : Nat), (es.foldl (fun s e => if Region.binds .any e then s ||| 2 ^ e.on ||| acc.getD e.on 0 else s) s).testBit j = true →
    s.testBit j = true ∨ ∃ e ∈ es, Region.binds .any e = true ∧ (j = e.on ∨ (acc.getD e.on 0).testBit j = true) := by
  intro es
  induction es with
  | nil => intro s h; exact Or.inl h
  | cons e es ih =>
    intro s h
    simp only [List.foldl_cons] at h
    rcases ih _ h with h | ⟨e', he, h1, h2⟩
    · split at h
      · rename_i hb
        simp only [Nat.testBit_or, Bool.or_eq_true] at h
        rcases h with (h | h) | h
        · exact Or.inl h
        · refine Or.inr ⟨e, by simp, hb, Or.inl ?_⟩
          rw [Nat.testBit_two_pow] at h
          simp at h; exact h.symm
        · exact Or.inr ⟨e, by simp, hb, Or.inr h⟩
      · exact Or.inl h
    · exact Or.inr ⟨e', by simp [he], h1, h2⟩

theorem befs_acc (j : Nat) : ∀ (l done : List Oper) (acc : List Nat), acc.length = done.length →
    (∀ i o, done[i]? = some o → (acc.getD i 0).testBit j = true → ∃ e ∈ o.after.toList, Region.binds .any e = true ∧ (j = e.on ∨ (acc.getD e.on 0).testBit j = true)) →
    (∀ i, i < acc.length → (befs l acc).getD i 0 = acc.getD i 0) ∧
    (∀ i o, (done ++ l)[i]? = some o → ((befs l acc).getD i 0).testBit j = true → ∃ e ∈ o.after.toList, Region.binds .any e = true ∧ (j = e.on ∨ ((befs l acc).getD e.on 0).testBit j = true)) := by
  intro l
  induction l with
  | nil => intro done acc hl h; exact ⟨fun i _ => rfl, by simpa [befs] using h⟩
  | cons o l ih =>
    intro done acc hl h
    simp only [befs]
    let row := o.after.toList.foldl (fun s e => if Region.binds .any e then s ||| 2 ^ e.on ||| acc.getD e.on 0 else s) 0
    have hget : ∀ i, i < acc.length → (acc ++ [row]).getD i 0 = acc.getD i 0 := by
      intro i hi; simp [List.getD_eq_getElem?_getD, List.getElem?_append_left hi]
    obtain ⟨k1, k2⟩ := ih (done ++ [o]) (acc ++ [row]) (by simp [hl]) (by
      intro i q hi hb
      rw [List.getElem?_append] at hi
      split at hi
      · rename_i hlt
        rw [hget i (by omega)] at hb
        obtain ⟨e, he, h1, h2⟩ := h i q hi hb
        refine ⟨e, he, h1, h2.imp id (fun h2 => ?_)⟩
        rcases Nat.lt_or_ge e.on acc.length with hlt2 | hge
        · rw [hget _ hlt2]; exact h2
        · rw [List.getD_eq_getElem?_getD, List.getElem?_eq_none hge] at h2; simp at h2
      · rename_i hge
        have hi0 : i - done.length = 0 := by
          rcases Nat.eq_zero_or_pos (i - done.length) with e | e
          · exact e
          · rw [List.getElem?_eq_none (by simp; omega)] at hi; simp at hi
        rw [hi0] at hi
        simp at hi; subst hi
        have hieq : i = acc.length := by omega
        subst hieq
        simp only [List.getD_eq_getElem?_getD, List.getElem?_append_right (Nat.le_refl _), Nat.sub_self, List.getElem?_cons_zero, Option.getD_some] at hb
        rcases foldl_bits acc j _ 0 hb with h0 | ⟨e, he, h1, h2⟩
        · simp at h0
        · refine ⟨e, he, h1, h2.imp id (fun h2 => ?_)⟩
          rcases Nat.lt_or_ge e.on acc.length with hlt2 | hge2
          · rw [hget _ hlt2]; exact h2
          · rw [List.getD_eq_getElem?_getD, List.getElem?_eq_none hge2] at h2; simp at h2)
    refine ⟨fun i hi => ?_, ?_⟩
    · rw [k1 i (by simp; omega)]; exact hget i hi
    · intro i q hi hb
      exact k2 i q (by simpa using hi) hb

theorem befs_spec (l : List Oper) (j i : Nat) (o : Oper) (hi : l[i]? = some o) (hb : ((befs l []).getD i 0).testBit j = true) :
    ∃ e ∈ o.after.toList, Region.binds .any e = true ∧ (j = e.on ∨ ((befs l []).getD e.on 0).testBit j = true) :=
  (befs_acc j l [] [] rfl (fun i o h => by simp at h)).2 i o (by simpa using hi) hb

/-- The static look's parts. -/
structure DrawOK (P : Program) (ops : List Oper) : Prop where
  on : ∀ i o, ops[i]? = some o → ∀ e ∈ o.after.toList, Region.binds .any e = true → e.on < i
  slot : ∀ i o j q d, ops[i]? = some o → ops[j]? = some q → j ≠ i → q.dst = some d → d ∈ looksAt ops o → apartOf (befs ops []) i j = true
  eff : ∀ i o j q, ops[i]? = some o → ops[j]? = some q → j ≠ i → kindOf P o.op = 2 → kindOf P q.op = 2 → apartOf (befs ops []) i j = true

theorem drawOK_spec {ops : Array Oper} (h : drawOK P ops = true) : DrawOK P ops.toList := by
  unfold drawOK at h
  have key : ∀ i o, ops.toList[i]? = some o → ((o.after.toList.all fun e => !Region.binds .any e || decide (e.on < i)) = true ∧
      ∀ j q, ops.toList[j]? = some q → (j == i || ((match q.dst with | some d => !(looksAt ops.toList o).contains d || apartOf (befs ops.toList []) i j | none => true) && (!(kindOf P o.op == 2 && kindOf P q.op == 2) || apartOf (befs ops.toList []) i j))) = true) := by
    intro i o hi
    have hil : i < ops.toList.length := by
      rcases Nat.lt_or_ge i ops.toList.length with e | e
      · exact e
      · rw [List.getElem?_eq_none e] at hi; simp at hi
    have := List.all_eq_true.1 h i (List.mem_range.2 hil)
    rw [hi] at this
    simp only [Bool.and_eq_true] at this
    refine ⟨this.1, fun j q hj => ?_⟩
    have hjl : j < ops.toList.length := by
      rcases Nat.lt_or_ge j ops.toList.length with e | e
      · exact e
      · rw [List.getElem?_eq_none e] at hj; simp at hj
    have := List.all_eq_true.1 this.2 j (List.mem_range.2 hjl)
    rw [hj] at this
    exact this
  refine ⟨?_, ?_, ?_⟩
  · intro i o hi e he hb
    have := List.all_eq_true.1 (key i o hi).1 e he
    simp [hb] at this
    exact this
  · intro i o j q d hi hj hne hd hl
    have := (key i o hi).2 j q hj
    rw [hd] at this
    simp only [Bool.or_eq_true, Bool.and_eq_true, beq_iff_eq, Bool.not_eq_true', List.contains_eq_mem, decide_eq_false_iff_not] at this
    rcases this with h | ⟨h | h, _⟩
    · exact absurd h hne
    · exact absurd hl h
    · exact h
  · intro i o j q hi hj hne h1 h2
    have := (key i o hi).2 j q hj
    simp only [Bool.or_eq_true, Bool.and_eq_true, beq_iff_eq, h1, h2, BEq.rfl, Bool.and_self, Bool.not_true, Bool.false_eq_true, false_or] at this
    rcases this with h | ⟨_, h⟩
    · exact absurd h hne
    · exact h

/-! ### The run in the text's order, told op by op -/
/-- What one operation does to slots and heap. -/
inductive StepAt (P : Program) (call : ACall) (ops : Array Oper) (j : Nat) (t : List Value) (h : AHeap) (v : Value) (h' : AHeap) : Prop
  | skip (o) (hi : ops[j]? = some o) (hw : Region.wanted o (ayielded ops t) = false) (hv : v = undef) (hh : h' = h)
  | pure (o) (hi : ops[j]? = some o) (hw : Region.wanted o (ayielded ops t) = true) (hk : kindOf P o.op = 0) (ha : apure P (aeval t) o.op = some v) (hh : h' = h)
  | read (o ty a) (hi : ops[j]? = some o) (hw : Region.wanted o (ayielded ops t) = true) (hk : kindOf P o.op = 1) (ho : o.op = .load ty a) (ha : aload P h ty (aeval t a) = some v) (hh : h' = h)
  | eff (o) (hi : ops[j]? = some o) (hw : Region.wanted o (ayielded ops t) = true) (hk : kindOf P o.op = 2) (ha : aop P call (aeval t) h o.op = some (v, h'))

def dstOf (ops : Array Oper) (j : Nat) : Option Tmp := (ops[j]?).bind (·.dst)

structure Trace (P : Program) (call : ACall) (ops : Array Oper) (i n : Nat) (T : Nat → List Value) (Hh : Nat → AHeap) (V : Nat → Value) : Prop where
  step : ∀ j, i ≤ j → j < n → StepAt P call ops j (T j) (Hh j) (V j) (Hh (j + 1))
  next : ∀ j, i ≤ j → j < n → T (j + 1) = aput (T j) (dstOf ops j) (V j)
  old : ∀ j o ty a, i ≤ j → j < n → ops[j]? = some o → o.op = .load ty a → Region.wanted o (ayielded ops (T j)) = true →
    ∀ e q, i ≤ e → e < n → ops[e]? = some q → kindOf P q.op = 2 → Region.wanted q (ayielded ops (T e)) = true → e ∈ floats P ops j →
      (e < j → aload P (Hh e) ty (aeval (T j) a) = some (V j)) ∧ (j < e → aload P (Hh (e + 1)) ty (aeval (T j) a) = some (V j))

theorem kindOf_le (op : Op) : kindOf P op = 0 ∨ kindOf P op = 1 ∨ kindOf P op = 2 := by
  unfold kindOf
  split <;> (try (split)) <;> simp

theorem adraw_trace {call : ACall} {ops : Array Oper} : ∀ (m i : Nat) {s s' : St} {hs : List (Nat × AHeap)} {rs : List (Nat × TypeId × Value × Value)}, adraw P call ops (List.range' i m) s hs rs = some s' →
    ∃ (T : Nat → List Value) (Hh : Nat → AHeap) (V : Nat → Value), T i = s.t ∧ Hh i = s.h ∧ T (i + m) = s'.t ∧ Hh (i + m) = s'.h ∧ Trace P call ops i (i + m) T Hh V ∧
      (∀ j o ty a, i ≤ j → j < i + m → ops[j]? = some o → o.op = .load ty a → Region.wanted o (ayielded ops (T j)) = true → ∀ p ∈ hs, p.1 ∈ floats P ops j → aload P p.2 ty (aeval (T j) a) = some (V j)) ∧
      (∀ e q, i ≤ e → e < i + m → ops[e]? = some q → kindOf P q.op = 2 → Region.wanted q (ayielded ops (T e)) = true → ∀ p ∈ rs, e ∈ floats P ops p.1 → aload P (Hh (e + 1)) p.2.1 p.2.2.1 = some p.2.2.2) := by
  intro m
  induction m with
  | zero =>
    intro i s s' hs rs h
    simp only [List.range'_zero, adraw, Option.some.injEq] at h; subst h
    exact ⟨fun _ => s.t, fun _ => s.h, fun _ => undef, rfl, rfl, rfl, rfl, ⟨fun j h1 h2 => by omega, fun j h1 h2 => by omega, fun j _ _ _ h1 h2 => by omega⟩, fun j _ _ _ h1 h2 => by omega, fun j _ h1 h2 => by omega⟩
  | succ m ih =>
    intro i s s' hs rs h
    simp only [List.range'_succ, adraw] at h
    -- how the rest and the first are put together
    have glue : ∀ {v : Value} {h1 : AHeap} {hs1 : List (Nat × AHeap)} {rs1 : List (Nat × TypeId × Value × Value)} (o : Oper), ops[i]? = some o → StepAt P call ops i s.t s.h v h1 →
        (∀ p ∈ hs, p ∈ hs1) → (∀ p ∈ rs, p ∈ rs1) →
        (kindOf P o.op = 2 → Region.wanted o (ayielded ops s.t) = true → (i, s.h) ∈ hs1 ∧ ∀ p ∈ rs, i ∈ floats P ops p.1 → aload P h1 p.2.1 p.2.2.1 = some p.2.2.2) →
        (∀ ty a, o.op = .load ty a → Region.wanted o (ayielded ops s.t) = true → (∀ e, e ∈ floats P ops i → (i, ty, aeval s.t a, v) ∈ rs1) ∧ ∀ p ∈ hs, p.1 ∈ floats P ops i → aload P p.2 ty (aeval s.t a) = some v) →
        adraw P call ops (List.range' (i + 1) m) ⟨aput s.t o.dst v, h1⟩ hs1 rs1 = some s' →
        ∃ (T : Nat → List Value) (Hh : Nat → AHeap) (V : Nat → Value), T i = s.t ∧ Hh i = s.h ∧ T (i + (m + 1)) = s'.t ∧ Hh (i + (m + 1)) = s'.h ∧ Trace P call ops i (i + (m + 1)) T Hh V ∧
          (∀ j o ty a, i ≤ j → j < i + (m + 1) → ops[j]? = some o → o.op = .load ty a → Region.wanted o (ayielded ops (T j)) = true → ∀ p ∈ hs, p.1 ∈ floats P ops j → aload P p.2 ty (aeval (T j) a) = some (V j)) ∧
          (∀ e q, i ≤ e → e < i + (m + 1) → ops[e]? = some q → kindOf P q.op = 2 → Region.wanted q (ayielded ops (T e)) = true → ∀ p ∈ rs, e ∈ floats P ops p.1 → aload P (Hh (e + 1)) p.2.1 p.2.2.1 = some p.2.2.2) := by
      intro v h1 hs1 rs1 o ho hstep hhs hrs heff hread hrest
      obtain ⟨T, Hh, V, t1, t2, t3, t4, tr, ta, tb⟩ := ih (i + 1) hrest
      have eT : ∀ j, i < j → (fun j => if j = i then s.t else T j) j = T j := fun j hj => by simp; omega
      refine ⟨fun j => if j = i then s.t else T j, fun j => if j = i then s.h else Hh j, fun j => if j = i then v else V j, by simp, by simp, ?_, ?_, ⟨?_, ?_, ?_⟩, ?_, ?_⟩
      · simp only [show ¬ (i + (m + 1) = i) by omega, if_false]; rw [show i + (m + 1) = i + 1 + m by omega]; exact t3
      · simp only [show ¬ (i + (m + 1) = i) by omega, if_false]; rw [show i + (m + 1) = i + 1 + m by omega]; exact t4
      · intro j h2 h3
        by_cases e : j = i
        · subst e; simp only [if_true, show ¬ (j + 1 = j) by omega, if_false]; rw [t2]; exact hstep
        · simp only [if_neg e, show ¬ (j + 1 = i) by omega, if_false]; exact tr.step j (by omega) (by omega)
      · intro j h2 h3
        by_cases e : j = i
        · subst e; simp only [if_true, show ¬ (j + 1 = j) by omega, if_false]; rw [t1]; simp [dstOf, ho]
        · simp only [if_neg e, show ¬ (j + 1 = i) by omega, if_false]; exact tr.next j (by omega) (by omega)
      · intro j o' ty a h2 h3 h4 h5 h6 e q g1 g2 g3 g4 g5 g6
        by_cases ej : j = i
        · subst ej
          rw [ho] at h4; simp only [Option.some.injEq] at h4; subst h4
          simp only [if_true] at h6 ⊢
          refine ⟨fun hlt => by omega, fun hlt => ?_⟩
          simp only [show ¬ (e = j) by omega, show ¬ (e + 1 = j) by omega, if_false] at g5 ⊢
          exact tb e q (by omega) (by omega) g3 g4 g5 _ ((hread ty a h5 h6).1 e g6) g6
        · simp only [if_neg ej] at h6 ⊢
          by_cases ee : e = i
          · subst ee
            simp only [if_true] at g5 ⊢
            rw [ho] at g3; simp only [Option.some.injEq] at g3; subst g3
            refine ⟨fun _ => ?_, fun hlt => by omega⟩
            exact ta j o' ty a (by omega) (by omega) h4 h5 h6 _ (heff g4 g5).1 g6
          · simp only [if_neg ee, show ¬ (e + 1 = i) by omega, if_false] at g5 ⊢
            exact tr.old j o' ty a (by omega) (by omega) h4 h5 h6 e q (by omega) (by omega) g3 g4 g5 g6
      · intro j o' ty a h2 h3 h4 h5 h6 p hp hf
        by_cases ej : j = i
        · subst ej
          rw [ho] at h4; simp only [Option.some.injEq] at h4; subst h4
          simp only [if_true] at h6 ⊢
          exact (hread ty a h5 h6).2 p hp hf
        · simp only [if_neg ej] at h6 ⊢
          exact ta j o' ty a (by omega) (by omega) h4 h5 h6 p (hhs p hp) hf
      · intro e q g1 g2 g3 g4 g5 p hp hf
        by_cases ee : e = i
        · subst ee
          rw [ho] at g3; simp only [Option.some.injEq] at g3; subst g3
          simp only [if_true, show ¬ (e + 1 = e) by omega, if_false] at g5 ⊢
          rw [t2]; exact (heff g4 g5).2 p hp hf
        · simp only [if_neg ee, show ¬ (e + 1 = i) by omega, if_false] at g5 ⊢
          exact tb e q (by omega) (by omega) g3 g4 g5 p (hrs p hp) hf
    split at h
    · simp at h
    · rename_i o ho
      split at h
      · rename_i hw
        split at h
        · rename_i hk
          split at h
          · rename_i v ha
            exact glue o ho (.pure o ho hw hk ha rfl) (fun p hp => hp) (fun p hp => hp) (fun e => by omega) (fun ty a e => by rw [e] at hk; simp [kindOf] at hk) h
          · simp at h
        · rename_i hk
          split at h
          · rename_i ty a hop
            split at h
            · rename_i v ha
              split at h
              · rename_i hall
                refine glue o ho (.read o ty a ho hw hk hop ha rfl) (fun p hp => hp) ?_ (fun e => by omega) ?_ h
                · intro p hp; split
                  · exact hp
                  · exact List.mem_cons_of_mem _ hp
                · intro ty' a' e hw'
                  rw [hop] at e
                  simp only [Op.load.injEq] at e
                  obtain ⟨rfl, rfl⟩ := e
                  refine ⟨fun e he => ?_, fun p hp hf => ?_⟩
                  · rw [if_neg]
                    · exact List.mem_cons_self
                    · intro hemp; rw [List.isEmpty_iff] at hemp; rw [hemp] at he; simp at he
                  · have := List.all_eq_true.1 hall p hp
                    simp only [Bool.or_eq_true, Bool.not_eq_true', List.contains_eq_mem, decide_eq_false_iff_not] at this
                    rcases this with h1 | h1
                    · exact absurd hf h1
                    · split at h1
                      · rename_i v' hv'; rw [hv', same_eq h1]
                      · simp at h1
              · simp at h
            · simp at h
          · simp at h
        · rename_i hk0 hk1
          have hk2 : kindOf P o.op = 2 := by rcases kindOf_le (P := P) o.op with e | e | e <;> first | exact e | exact absurd e (by assumption)
          split at h
          · rename_i v h1 ha
            split at h
            · rename_i hall
              refine glue o ho (.eff o ho hw hk2 ha) (fun p hp => List.mem_cons_of_mem _ hp) (fun p hp => hp) (fun _ _ => ⟨List.mem_cons_self, fun p hp hf => ?_⟩) (fun ty a e => by rw [e] at hk2; simp [kindOf] at hk2) h
              have := List.all_eq_true.1 hall p hp
              simp only [Bool.or_eq_true, Bool.not_eq_true', List.contains_eq_mem, decide_eq_false_iff_not] at this
              rcases this with h1 | h1
              · exact absurd hf h1
              · split at h1
                · rename_i v' hv'; rw [hv', same_eq h1]
                · simp at h1
            · simp at h
          · simp at h
      · rename_i hw
        have hw' : Region.wanted o (ayielded ops s.t) = false := by simpa using hw
        exact glue o ho (.skip o ho hw' rfl rfl) (fun p hp => hp) (fun p hp => hp) (fun _ e => by rw [hw'] at e; simp at e) (fun ty a _ e => by rw [hw'] at e; simp at e) h
end Go.AM

/-
  THE ABSTRACT EXECUTOR: a region that draws its order (2).
-/
set_option linter.unusedSimpArgs false
set_option linter.unusedVariables false
namespace Go.AM
variable {P : Program} {G : Nat}

/-- The slots when the operations of S, in the text's order, are done. -/
def slotsOf (ops : Array Oper) (V : Nat → Value) (t0 : List Value) (S : Nat → Bool) : Nat → List Value
  | 0 => t0
  | n + 1 => if S n then aput (slotsOf ops V t0 S n) (dstOf ops n) (V n) else slotsOf ops V t0 S n

theorem aput_length (t : List Value) (d : Option Tmp) (v : Value) : (aput t d v).length = t.length := by cases d <;> simp [aput]
theorem slotsOf_length (ops : Array Oper) (V : Nat → Value) (t0 : List Value) (S : Nat → Bool) : ∀ n, (slotsOf ops V t0 S n).length = t0.length
  | 0 => rfl
  | n + 1 => by simp only [slotsOf]; split <;> simp [aput_length, slotsOf_length ops V t0 S n]
theorem aput_get (t : List Value) (d : Option Tmp) (v : Value) (k : Nat) : (aput t d v)[k]? = if d = some k ∧ k < t.length then some v else t[k]? := by
  cases d with
  | none => simp [aput]
  | some d =>
    simp only [aput, List.getElem?_set, Option.some.injEq]
    by_cases h : d = k
    · subst h
      by_cases h2 : d < t.length
      · simp [h2]
      · simp [h2]
    · simp [h]
theorem slotsOf_congr {ops : Array Oper} {V : Nat → Value} {t0 : List Value} {S S' : Nat → Bool} {k : Nat} : ∀ n, (∀ j, j < n → dstOf ops j = some k → S j = S' j) → (slotsOf ops V t0 S n)[k]? = (slotsOf ops V t0 S' n)[k]? := by
  intro n
  induction n with
  | zero => intro _; rfl
  | succ n ih =>
    intro h
    have ih' := ih (fun j hj hd => h j (by omega) hd)
    simp only [slotsOf]
    by_cases hd : dstOf ops n = some k
    · rw [h n (by omega) hd]
      split
      · rw [aput_get, aput_get, slotsOf_length, slotsOf_length, ih']
      · exact ih'
    · have e1 : ∀ t : List Value, (aput t (dstOf ops n) (V n))[k]? = t[k]? := by
        intro t; rw [aput_get, if_neg (fun e => hd e.1)]
      split <;> split <;> (try simp only [e1]) <;> exact ih'

/-- Nothing but what the operations look at counts. -/
theorem aeval_congr {t t' : List Value} {x : Operand} (h : ∀ k, tmpOf x = some k → t[k]? = t'[k]?) : aeval t x = aeval t' x := by
  cases x with
  | tmp k => simp only [aeval, List.getD_eq_getElem?_getD]; rw [h k rfl]
  | _ => rfl
theorem ayielded_congr {ops : Array Oper} {t t' : List Value} {j : Nat} (h : ∀ k, dstOf ops j = some k → t[k]? = t'[k]?) : ayielded ops t j = ayielded ops t' j := by
  unfold ayielded
  cases hd : (ops[j]?).bind (·.dst) with
  | none => rfl
  | some d => rw [Option.bind_some, Option.bind_some, h d hd]
theorem wanted_congr {ops : Array Oper} {t t' : List Value} {o : Oper} (h : ∀ k ∈ looksAt ops.toList o, t[k]? = t'[k]?) : Region.wanted o (ayielded ops t) = Region.wanted o (ayielded ops t') := by
  unfold Region.wanted
  cases hg : o.guard with
  | none => rfl
  | some g =>
    obtain ⟨j, want⟩ := g
    show (ayielded ops t j == some want) = (ayielded ops t' j == some want)
    rw [ayielded_congr (ops := ops) (t := t) (t' := t') (j := j)]
    intro k hk
    refine h k ?_
    unfold looksAt
    rw [hg]
    simp only [List.mem_append]
    right
    have : (ops.toList[j]?).bind (·.dst) = some k := by simpa [dstOf] using hk
    rw [this]; simp

/-- A function of the operands. -/
theorem operands_congr {ops : Array Oper} {t t' : List Value} {o : Oper} (h : ∀ k ∈ looksAt ops.toList o, t[k]? = t'[k]?) : ∀ x ∈ o.op.operands.toList, aeval t x = aeval t' x := by
  intro x hx
  refine aeval_congr (fun k hk => h k ?_)
  unfold looksAt
  simp only [List.mem_append, List.mem_filterMap]
  exact Or.inl (Or.inr ⟨x, hx, hk⟩)

theorem map_congr' {l : List Operand} {ea ea' : Operand → Value} (h : ∀ x ∈ l, ea x = ea' x) : l.map ea = l.map ea' := List.map_congr_left h
theorem omap_congr {o : Option Operand} {ea ea' : Operand → Value} (h : ∀ x, o = some x → ea x = ea' x) : o.map ea = o.map ea' := by
  cases o with
  | none => rfl
  | some x => simp [h x rfl]

theorem apure_congr {ea ea' : Operand → Value} {op : Op} (h : ∀ x ∈ op.operands.toList, ea x = ea' x) : apure P ea op = apure P ea' op := by
  cases op with
  | move x => simp only [apure]; rw [h x (by simp [Op.operands])]
  | assign x => simp only [apure]; rw [h x (by simp [Op.operands])]
  | pick c a b => simp only [apure]; rw [h c (by simp [Op.operands]), h a (by simp [Op.operands]), h b (by simp [Op.operands])]
  | build t parts =>
    simp only [apure]
    congr 1
    apply List.map_congr_left
    intro p hp
    rw [h p.2 (by simp only [Op.operands, List.mem_map]; exact ⟨p, hp, rfl⟩)]
  | nilCheck x => simp only [apure]; rw [h x (by simp [Op.operands])]
  | binOp o t x y yt => simp only [apure]; rw [h x (by simp [Op.operands]), h y (by simp [Op.operands])]
  | unOp o t x => simp only [apure]; rw [h x (by simp [Op.operands])]
  | convert s d x => simp only [apure]; rw [h x (by simp [Op.operands])]
  | makeInterface t x => simp only [apure]; rw [h x (by simp [Op.operands])]
  | makeFunc fn first captured =>
    have e1 : first.map ea = first.map ea' := by
      apply Array.map_congr_left; intro x hx; exact h x (by simp [Op.operands]; exact Or.inl hx)
    have e2 : captured.map ea = captured.map ea' := by
      apply Array.map_congr_left; intro x hx; exact h x (by simp [Op.operands]; exact Or.inr hx)
    cases fn <;> simp only [apure] <;> rw [e1, e2]
  | slice t x lo hi mx =>
    simp only [apure]
    rw [h x (by simp [Op.operands]), omap_congr (fun y hy => h y (by simp [Op.operands, hy])), omap_congr (o := hi) (fun y hy => h y (by simp [Op.operands, hy])), omap_congr (o := mx) (fun y hy => h y (by simp [Op.operands, hy]))]
  | fieldAddr s x f => simp only [apure]; rw [h x (by simp [Op.operands])]
  | field t x f => simp only [apure]; rw [h x (by simp [Op.operands])]
  | indexAddr t x ix => simp only [apure]; rw [h x (by simp [Op.operands]), h ix (by simp [Op.operands])]
  | index t x ix => simp only [apure]; rw [h x (by simp [Op.operands]), h ix (by simp [Op.operands])]
  | extract x i => simp only [apure]; rw [h x (by simp [Op.operands])]
  | call c =>
    obtain ⟨callee, args, argTypes⟩ := c
    cases callee with
    | builtin b =>
      have e1 : args.toList.map ea = args.toList.map ea' := by
        apply List.map_congr_left; intro x hx; exact h x (by simp [Op.operands, Call.operands]; simpa using hx)
      cases b <;> simp only [apure] <;> (try rw [e1])
      -- len
      split
      · rename_i x t hx ht
        rw [h x (by simp only [Op.operands, Call.operands]; simp [hx])]
      · rfl
    | _ => rfl
  | _ => rfl

theorem aread_congr {ea ea' : Operand → Value} {h : AHeap} {op : Op} (hx : ∀ x ∈ op.operands.toList, ea x = ea' x) : aread P ea h op = aread P ea' h op := by
  cases op with
  | convert s d x => simp only [aread]; rw [hx x (by simp [Op.operands])]
  | load t a => simp only [aread]; rw [hx a (by simp [Op.operands])]
  | lookup t m k ok => simp only [aread]; rw [hx m (by simp [Op.operands]), hx k (by simp [Op.operands])]
  | slice t x lo hi mx =>
    simp only [aread]
    rw [hx x (by simp [Op.operands]), omap_congr (fun y hy => hx y (by simp [Op.operands, hy])), omap_congr (o := hi) (fun y hy => hx y (by simp [Op.operands, hy])), omap_congr (o := mx) (fun y hy => hx y (by simp [Op.operands, hy]))]
  | call c =>
    obtain ⟨callee, args, argTypes⟩ := c
    cases callee with
    | builtin b =>
      cases b <;> simp only [aread]
      split
      · rename_i x t he ht
        rw [hx x (by simp only [Op.operands, Call.operands]; simp [he])]
      · rfl
    | _ => rfl
  | _ => rfl

theorem aeff_congr {ea ea' : Operand → Value} {h : AHeap} {op : Op} (hx : ∀ x ∈ op.operands.toList, ea x = ea' x) : aeff P ea h op = aeff P ea' h op := by
  cases op with
  | alloc e => rfl
  | box e x => simp only [aeff]; rw [hx x (by simp [Op.operands])]
  | buildSlice t len parts =>
    simp only [aeff]
    congr 1
    apply List.map_congr_left
    intro p hp
    rw [hx p.2 (by simp only [Op.operands, List.mem_map]; exact ⟨p, hp, rfl⟩)]
  | store t a x => simp only [aeff]; rw [hx a (by simp [Op.operands]), hx x (by simp [Op.operands])]
  | makeSlice t l c => simp only [aeff]; rw [hx l (by simp [Op.operands]), hx c (by simp [Op.operands])]
  | range t x => simp only [aeff]; rw [hx x (by simp [Op.operands])]
  | next it b => cases b <;> simp only [aeff]; rw [hx it (by simp [Op.operands])]
  | convert s d x => simp only [aeff]; rw [hx x (by simp [Op.operands])]
  | makeMap t r => cases r <;> rfl
  | mapUpdate t m k x => simp only [aeff]; rw [hx m (by simp [Op.operands]), hx k (by simp [Op.operands]), hx x (by simp [Op.operands])]
  | insert t m k x => simp only [aeff]; rw [hx m (by simp [Op.operands]), hx k (by simp [Op.operands]), hx x (by simp [Op.operands])]
  | call c =>
    obtain ⟨callee, args, argTypes⟩ := c
    cases callee with
    | builtin b =>
      cases b <;> simp only [aeff]
      · split
        · rename_i s x sT xT he ht
          rw [hx s (by simp only [Op.operands, Call.operands]; simp [he]), hx x (by simp only [Op.operands, Call.operands]; simp [he])]
        · rfl
      · split
        · rename_i x t he ht
          rw [hx x (by simp only [Op.operands, Call.operands]; simp [he])]
        · rfl
    | _ => rfl
  | _ => rfl

theorem aop_congr {call : ACall} {ea ea' : Operand → Value} {h : AHeap} {op : Op} (hx : ∀ x ∈ op.operands.toList, ea x = ea' x) : aop P call ea h op = aop P call ea' h op := by
  unfold aop
  split
  · rename_i f args argTypes
    rw [hx f (by simp [Op.operands, Call.operands]), List.map_congr_left (f := ea) (g := ea') (l := args.toList) (fun x hm => hx x (by simp [Op.operands, Call.operands]; exact Or.inr (by simpa using hm)))]
  · rw [apure_congr hx, aread_congr hx, aeff_congr hx]

/-! ### Whatever order -/
/-- What stands when the operations of S are done. -/
structure Mid (P : Program) (G : Nat) (W0 : World) (call : ACall) (ops : Array Oper) (n : Nat) (T : Nat → List Value) (Hh : Nat → AHeap) (V : Nat → Value) (S : Nat → Bool) (ρ : Rho) (a : Act) (w : World) : Prop where
  slots : LRel ρ (slotsOf ops V (T 0) S n) a.tmps.toList
  heap : ∃ m, m ≤ n ∧ HRel G ρ (Hh m) w ∧ ∀ j o, j < n → ops[j]? = some o → kindOf P o.op = 2 → Region.wanted o (ayielded ops (T j)) = true → (S j = true ↔ j < m)
  kept : Kept G W0 w
  closed : ∀ j o, j < n → ops[j]? = some o → S j = true → ∀ e ∈ o.after.toList, Region.binds .any e = true → S e.on = true

theorem slots_trace {call : ACall} {ops : Array Oper} {n : Nat} {T : Nat → List Value} {Hh : Nat → AHeap} {V : Nat → Value} (tr : Trace P call ops 0 n T Hh V) : ∀ m i, m ≤ n → i ≤ m → slotsOf ops V (T 0) (fun j => j < i) m = T i := by
  intro m
  induction m with
  | zero =>
    intro i _ hi
    have : i = 0 := by omega
    subst this; rfl
  | succ m ih =>
    intro i hm hi
    simp only [slotsOf]
    by_cases h : m < i
    · obtain rfl : i = m + 1 := by omega
      simp only [show (decide (m < m + 1)) = true by simp, if_true]
      have e : slotsOf ops V (T 0) (fun j => decide (j < m + 1)) m = slotsOf ops V (T 0) (fun j => decide (j < m)) m := by
        apply List.ext_getElem?
        intro k
        exact slotsOf_congr m (fun j hj _ => by simp; omega)
      rw [e, ih m (by omega) (Nat.le_refl _)]
      exact (tr.next m (by omega) (by omega)).symm
    · rw [if_neg (by simpa using h)]
      exact ih i (by omega) (by omega)

theorem bits_in {ops : Array Oper} {n : Nat} {S : Nat → Bool} (hn : ops.size = n) (D : DrawOK P ops.toList)
    (hc : ∀ j o, j < n → ops[j]? = some o → S j = true → ∀ e ∈ o.after.toList, Region.binds .any e = true → S e.on = true) :
    ∀ i o, i < n → ops[i]? = some o → (∀ e ∈ o.after.toList, Region.binds .any e = true → S e.on = true) → ∀ j, ((befs ops.toList []).getD i 0).testBit j = true → S j = true := by
  intro i
  induction i using Nat.strongRecOn with
  | _ i ih =>
    intro o hi ho hd j hb
    obtain ⟨e, he, h1, h2⟩ := befs_spec ops.toList j i o (by simpa using ho) hb
    rcases h2 with rfl | h2
    · exact hd e he h1
    · have hlt := D.on i o (by simpa using ho) e he h1
      have hsz : e.on < ops.size := by omega
      exact ih e.on hlt ops[e.on] (by omega) (by simp) (fun e2 he2 hb2 => hc e.on ops[e.on] (by omega) (by simp) (hd e he h1) e2 he2 hb2) j h2

/-- Whoever writes a slot that i looks at is done just if he stands before i. -/
theorem writers {ops : Array Oper} {n : Nat} {S : Nat → Bool} (hn : ops.size = n) (D : DrawOK P ops.toList)
    (hc : ∀ j o, j < n → ops[j]? = some o → S j = true → ∀ e ∈ o.after.toList, Region.binds .any e = true → S e.on = true)
    {i : Nat} {o : Oper} (hi : i < n) (ho : ops[i]? = some o) (hS : S i = false) (hd : ∀ e ∈ o.after.toList, Region.binds .any e = true → S e.on = true)
    {j : Nat} (hap : apartOf (befs ops.toList []) i j = true) (hj : j < n) (hne : j ≠ i) : S j = decide (j < i) := by
  unfold apartOf at hap
  split at hap
  · rename_i hlt
    rw [bits_in hn D hc i o hi ho hd j hap]; simp [hlt]
  · rename_i hge
    have : S j = false := by
      rw [Bool.eq_false_iff]
      intro hSj
      have := bits_in hn D hc j ops[j] hj (by simp) (fun e he hb => hc j ops[j] hj (by simp) hSj e he hb) i hap
      rw [hS] at this; simp at this
    rw [this]; symm; simp; omega

theorem Mid.look {W0 : World} {call : ACall} {ops : Array Oper} {n : Nat} {T : Nat → List Value} {Hh : Nat → AHeap} {V : Nat → Value} {S : Nat → Bool} {ρ : Rho} {a : Act} {w : World} (hn : ops.size = n) (D : DrawOK P ops.toList)
    (tr : Trace P call ops 0 n T Hh V) (M : Mid P G W0 call ops n T Hh V S ρ a w) {i : Nat} {o : Oper} (hi : i < n) (ho : ops[i]? = some o) (hS : S i = false) (hd : ∀ e ∈ o.after.toList, Region.binds .any e = true → S e.on = true) :
    ∀ k ∈ looksAt ops.toList o, (slotsOf ops V (T 0) S n)[k]? = (T i)[k]? := by
  intro k hk
  rw [← slots_trace tr n i (Nat.le_refl _) (by omega)]
  refine slotsOf_congr n (fun j hj hdst => ?_)
  by_cases e : j = i
  · subst e; rw [hS]; simp
  · have hjo : ops[j]? = some ops[j] := by simp
    have hd2 : ops[j].dst = some k := by simpa [dstOf, hjo] using hdst
    have := D.slot i o j ops[j] k (by simpa using ho) (by simp) e hd2 hk
    exact writers hn D M.closed hi ho hS hd this hj e

theorem setS {listed : Array Bool} {i j : Nat} (hi : i < listed.size) : (listed.setIfInBounds i true).getD j false = if j = i then true else listed.getD j false := by
  simp only [Array.getD_eq_getD_getElem?, Array.getElem?_setIfInBounds]
  by_cases e : i = j
  · subst e; simp [hi]
  · rw [if_neg e, if_neg (fun h => e h.symm)]

/-- One more operation. -/
theorem Mid.one {W0 : World} {call : ACall} (hcall : CallOK P G W0 call) {ops : Array Oper} (hops : ops.toList.all (operOK G) = true) {n : Nat} {T : Nat → List Value} {Hh : Nat → AHeap} {V : Nat → Value} {listed : Array Bool} {ρ : Rho} {a : Act} {w : World}
    (hn : ops.size = n) (hls : listed.size = n) (D : DrawOK P ops.toList) (tr : Trace P call ops 0 n T Hh V) (M : Mid P G W0 call ops n T Hh V (fun j => listed.getD j false) ρ a w)
    {i : Nat} {o : Oper} (hi : i < n) (ho : ops[i]? = some o) (hS : listed.getD i false = false) (hd : ∀ e ∈ o.after.toList, Region.binds .any e = true → listed.getD e.on false = true)
    (b : Frame) (k : List Item) (cs : List Frame) (rest : List Nat) :
    ∃ (ρ' : Rho) (a' : Act) (w' : World), Mid P G W0 call ops n T Hh V (fun j => (listed.setIfInBounds i true).getD j false) ρ' a' w' ∧ a'.defers = a.defers ∧ (∀ m, HRel G ρ (Hh m) w → True) ∧
      (∃ m m', m ≤ n ∧ m' ≤ n ∧ Fr ρ (Hh m) w ρ' (Hh m') w' ∧ HRel G ρ (Hh m) w ∧ HRel G ρ' (Hh m') w' ∧ (∀ j q, j < n → ops[j]? = some q → kindOf P q.op = 2 → Region.wanted q (ayielded ops (T j)) = true → (listed.getD j false = true ↔ j < m)) ∧ (∀ j q, j < n → ops[j]? = some q → kindOf P q.op = 2 → Region.wanted q (ayielded ops (T j)) = true → ((listed.setIfInBounds i true).getD j false = true ↔ j < m'))) ∧
      Steps P (lone (b.atR a (.inRegion ops (i :: rest) :: k)) cs w) (lone (b.atR a' (.inRegion ops rest :: k)) cs w') := by
  have hlook := M.look hn D tr hi ho hS hd
  have hops' := operands_congr hlook
  have hwant := wanted_congr (ops := ops) (o := o) hlook
  have hoOK : operOK G o = true := List.all_eq_true.1 hops o (by rw [Array.mem_toList_iff]; exact Array.mem_of_getElem? ho)
  have hset : ∀ j, (listed.setIfInBounds i true).getD j false = if j = i then true else listed.getD j false := fun j => setS (by omega)
  -- the slots behind it
  have slots' : ∀ {ρ' : Rho} {v' : Value}, RhoLe ρ ρ' → VRel ρ' (V i) v' → LRel ρ' (slotsOf ops V (T 0) (fun j => (listed.setIfInBounds i true).getD j false) n) (a.put o.dst v').tmps.toList := by
    intro ρ' v' hle hv
    have e : slotsOf ops V (T 0) (fun j => (listed.setIfInBounds i true).getD j false) n = aput (slotsOf ops V (T 0) (fun j => listed.getD j false) n) o.dst (V i) := by
      apply List.ext_getElem?
      intro q
      rw [aput_get, slotsOf_length]
      by_cases hq : o.dst = some q
      · -- its own slot
        have h1 : (slotsOf ops V (T 0) (fun j => (listed.setIfInBounds i true).getD j false) n)[q]? = (slotsOf ops V (T 0) (fun j => j < i + 1) n)[q]? := by
          refine slotsOf_congr n (fun j hj hdst => ?_)
          rw [hset]
          by_cases ej : j = i
          · subst ej; simp
          · rw [if_neg ej]
            have hd2 : ops[j].dst = some q := by simpa [dstOf, show ops[j]? = some ops[j] by simp] using hdst
            have hap := D.slot i o j ops[j] q (by simpa using ho) (by simp) ej hd2 (by unfold looksAt; rw [hq]; simp)
            have := writers hn D M.closed hi ho hS hd hap hj ej
            rw [this]; simp; omega
        rw [h1, slots_trace tr n (i + 1) (Nat.le_refl _) (by omega), tr.next i (by omega) hi]
        have : dstOf ops i = some q := by simp [dstOf, ho, hq]
        rw [this, aput_get]
        have hl : (T i).length = (T 0).length := by rw [← slots_trace tr n i (Nat.le_refl _) (by omega), slotsOf_length]
        rw [hl]
        simp only [hq, true_and]
        by_cases hlt : q < (T 0).length
        · rw [if_pos hlt, if_pos hlt]
        · rw [if_neg hlt, if_neg hlt]
          rw [List.getElem?_eq_none (by omega), List.getElem?_eq_none (by rw [slotsOf_length]; omega)]
      · rw [if_neg (fun e => hq e.1)]
        refine slotsOf_congr n (fun j hj hdst => ?_)
        rw [hset]
        by_cases ej : j = i
        · subst ej
          exfalso; apply hq
          simpa [dstOf, ho] using hdst
        · rw [if_neg ej]
    rw [e]
    exact (M.slots.mono hle).put hv o.dst
  have closed' : ∀ j q, j < n → ops[j]? = some q → (listed.setIfInBounds i true).getD j false = true → ∀ e ∈ q.after.toList, Region.binds .any e = true → (listed.setIfInBounds i true).getD e.on false = true := by
    intro j q hj hq hSj e he hb
    rw [hset] at hSj ⊢
    by_cases ej : j = i
    · subst ej
      rw [ho] at hq; simp only [Option.some.injEq] at hq; subst hq
      have := hd e he hb
      split
      · rfl
      · exact this
    · rw [if_neg ej] at hSj
      have := M.closed j q hj hq hSj e he hb
      split
      · rfl
      · exact this
  obtain ⟨m, hm, HH, heffs⟩ := M.heap
  -- an operation that is no effect leaves the count of effects as it is
  have keepm : (kindOf P o.op ≠ 2 ∨ Region.wanted o (ayielded ops (T i)) = false) → ∀ j q, j < n → ops[j]? = some q → kindOf P q.op = 2 → Region.wanted q (ayielded ops (T j)) = true → ((listed.setIfInBounds i true).getD j false = true ↔ j < m) := by
    intro hno j q hj hq h2 hw2
    rw [hset]
    by_cases ej : j = i
    · subst ej
      rw [ho] at hq; simp only [Option.some.injEq] at hq; subst hq
      rcases hno with h | h
      · exact absurd h2 h
      · rw [h] at hw2; simp at hw2
    · rw [if_neg ej]; exact heffs j q hj hq h2 hw2
  have hstep := tr.step i (by omega) hi
  have hg := fun hw' => stepGR_op (P := P) (b := b) (a := a) (k := k) (cs := cs) (w := w) (rest := rest) ho hw'
  have hfin : ∀ u, (b.atR a (.inRegion ops (i :: rest) :: k)).finish u = b.atR (a.put o.dst u) (.inRegion ops rest :: k) := by
    intro u; rw [Frame.finish_atR, ho]; rfl
  cases hstep with
  | skip o' hi' hw hv hh =>
    rw [ho] at hi'; simp only [Option.some.injEq] at hi'; subst hi'
    have hw' : Region.wanted o (yielded ops a.tmps) = false := by rw [yielded_eq M.slots, hwant]; exact hw
    refine ⟨ρ, a.put o.dst undef, w, ⟨slots' (.refl ρ) (by rw [hv]; exact .undef ρ), ⟨m, hm, HH, keepm (Or.inr hw)⟩, M.kept, closed'⟩, put_defers _ _ _, fun _ _ => trivial, ⟨m, m, hm, hm, .refl _ _ _, HH, HH, heffs, keepm (Or.inr hw)⟩, .one ?_⟩
    have := stepR_op_skip (P := P) (b := b) (a := a) (k := k) (cs := cs) (w := w) (ops := ops) (i := i) (rest := rest) (by simp [ho, hw'])
    rw [ho] at this
    exact this
  | pure o' hi' hw hk ha hh =>
    rw [ho] at hi'; simp only [Option.some.injEq] at hi'; subst hi'
    have hw' : Region.wanted o (yielded ops a.tmps) = true := by rw [yielded_eq M.slots, hwant]; exact hw
    rw [← apure_congr hops'] at ha
    obtain ⟨v', r1, r2⟩ := apure_sound (LRel.eval HH M.slots) hoOK ha
    refine ⟨ρ, a.put o.dst v', w, ⟨slots' (.refl ρ) r2, ⟨m, hm, HH, keepm (Or.inl (by omega))⟩, M.kept, closed'⟩, put_defers _ _ _, fun _ _ => trivial, ⟨m, m, hm, hm, .refl _ _ _, HH, HH, heffs, keepm (Or.inl (by omega))⟩, .one (step_lone_go ?_)⟩
    have hnd : ∀ c, o.op ≠ .defer c := by intro c e; rw [e] at hk; simp [kindOf] at hk
    rw [hg hw', Oper.semAt_eq _ _ _ hnd, ← hfin]
    simp [stepG.apply, r1, Sem.runT_eq]
  | read o' ty ad hi' hw hk hop ha hh =>
    rw [ho] at hi'; simp only [Option.some.injEq] at hi'; subst hi'
    have hw' : Region.wanted o (yielded ops a.tmps) = true := by rw [yielded_eq M.slots, hwant]; exact hw
    have head : aeval (slotsOf ops V (T 0) (fun j => listed.getD j false) n) ad = aeval (T i) ad := hops' ad (by rw [hop]; simp [Op.operands])
    -- what it reads now is what it reads in the text's order
    have hnow : aload P (Hh m) ty (aeval (T i) ad) = some (V i) := by
      have same_at : ∀ p q, p ≤ q → q ≤ n → (∀ j o, p ≤ j → j < q → ops[j]? = some o → kindOf P o.op = 2 → Region.wanted o (ayielded ops (T j)) = true → False) → Hh q = Hh p := by
        intro p q hpq
        induction q with
        | zero => intro _ _; obtain rfl : p = 0 := by omega
                  rfl
        | succ q ih =>
          intro hq hno
          by_cases e : p = q + 1
          · rw [e]
          · have h1 := ih (by omega) (by omega) (fun j o h1 h2 => hno j o h1 (by omega))
            rw [← h1]
            cases tr.step q (by omega) (by omega) with
            | skip _ _ _ _ hh => exact hh
            | pure _ _ _ _ _ hh => exact hh
            | read _ _ _ _ _ _ _ _ hh => exact hh
            | eff o2 hi2 hw2 hk2 _ => exact (hno q o2 (by omega) (by omega) hi2 hk2 hw2).elim
      have hfl : ∀ e q, e < n → ops[e]? = some q → kindOf P q.op = 2 → e ≠ i → apartOf (befs ops.toList []) i e = false → e ∈ floats P ops i := by
        intro e q he hq h2 hne hap
        unfold floats
        rw [List.mem_filter]
        refine ⟨List.mem_range.2 (by simp; omega), ?_⟩
        have : ops.toList[e]? = some q := by simpa using hq
        rw [this]
        simp [h2, hne, hap]
      have hap_of : ∀ e q, e < n → ops[e]? = some q → e ≠ i → ¬ (listed.getD e false = decide (e < i)) → apartOf (befs ops.toList []) i e = false := by
        intro e q he hq hne hx
        rw [Bool.eq_false_iff]
        intro hap
        exact hx (writers hn D M.closed hi ho hS hd hap he hne)
      by_cases hmi : m ≤ i
      · by_cases hex : ∃ e q, m ≤ e ∧ e < i ∧ ops[e]? = some q ∧ kindOf P q.op = 2 ∧ Region.wanted q (ayielded ops (T e)) = true
        · -- the first effect from m on
          have : ∃ e, (∃ q, m ≤ e ∧ e < i ∧ ops[e]? = some q ∧ kindOf P q.op = 2 ∧ Region.wanted q (ayielded ops (T e)) = true) ∧ ∀ e', e' < e → ¬ ∃ q, m ≤ e' ∧ e' < i ∧ ops[e']? = some q ∧ kindOf P q.op = 2 ∧ Region.wanted q (ayielded ops (T e')) = true := by
            obtain ⟨e, q, h⟩ := hex
            have : ∃ e, ∃ q, m ≤ e ∧ e < i ∧ ops[e]? = some q ∧ kindOf P q.op = 2 ∧ Region.wanted q (ayielded ops (T e)) = true := ⟨e, q, h⟩
            clear h
            obtain ⟨e, he⟩ := this
            induction e using Nat.strongRecOn with
            | _ e ih =>
              by_cases hlt : ∃ e', e' < e ∧ ∃ q, m ≤ e' ∧ e' < i ∧ ops[e']? = some q ∧ kindOf P q.op = 2 ∧ Region.wanted q (ayielded ops (T e')) = true
              · obtain ⟨e', h1, h2⟩ := hlt; exact ih e' h1 h2
              · exact ⟨e, he, fun e' h1 h2 => hlt ⟨e', h1, h2⟩⟩
          obtain ⟨e, ⟨q, h1, h2, h3, h4, h5⟩, hfirst⟩ := this
          have hme : Hh e = Hh m := same_at m e h1 (by omega) (fun j o g1 g2 g3 g4 g5 => hfirst j g2 ⟨o, g1, by omega, g3, g4, g5⟩)
          have hnS : listed.getD e false = false := by
            rw [Bool.eq_false_iff]; intro hs
            have := (heffs e q (by omega) h3 h4 h5).1 hs; omega
          have hfe := hfl e q (by omega) h3 h4 (by omega) (hap_of e q (by omega) h3 (by omega) (by rw [hnS]; simp; omega))
          have := (tr.old i o ty ad (by omega) hi ho hop hw e q (by omega) (by omega) h3 h4 h5 hfe).1 h2
          rw [← hme]; exact this
        · have hme : Hh i = Hh m := same_at m i hmi (by omega) (fun j o g1 g2 g3 g4 g5 => hex ⟨j, o, g1, g2, g3, g4, g5⟩)
          rw [← hme]; exact ha
      · by_cases hex : ∃ e q, i < e ∧ e < m ∧ ops[e]? = some q ∧ kindOf P q.op = 2 ∧ Region.wanted q (ayielded ops (T e)) = true
        · have : ∃ e, (∃ q, i < e ∧ e < m ∧ ops[e]? = some q ∧ kindOf P q.op = 2 ∧ Region.wanted q (ayielded ops (T e)) = true) ∧ ∀ e', e < e' → ¬ ∃ q, i < e' ∧ e' < m ∧ ops[e']? = some q ∧ kindOf P q.op = 2 ∧ Region.wanted q (ayielded ops (T e')) = true := by
            obtain ⟨e, q, h⟩ := hex
            have : ∃ d, ∃ e, m - e = d ∧ ∃ q, i < e ∧ e < m ∧ ops[e]? = some q ∧ kindOf P q.op = 2 ∧ Region.wanted q (ayielded ops (T e)) = true := ⟨m - e, e, rfl, q, h⟩
            clear h
            obtain ⟨d, hd'⟩ := this
            induction d using Nat.strongRecOn with
            | _ d ih =>
              obtain ⟨e, hde, he⟩ := hd'
              by_cases hgt : ∃ e', e < e' ∧ ∃ q, i < e' ∧ e' < m ∧ ops[e']? = some q ∧ kindOf P q.op = 2 ∧ Region.wanted q (ayielded ops (T e')) = true
              · obtain ⟨e', h1, q', h2⟩ := hgt
                exact ih (m - e') (by omega) ⟨e', rfl, q', h2⟩
              · exact ⟨e, he, fun e' h1 h2 => hgt ⟨e', h1, h2⟩⟩
          obtain ⟨e, ⟨q, h1, h2, h3, h4, h5⟩, hlast⟩ := this
          have hme : Hh m = Hh (e + 1) := same_at (e + 1) m (by omega) hm (fun j o g1 g2 g3 g4 g5 => hlast j (by omega) ⟨o, by omega, g2, g3, g4, g5⟩)
          have hsS : listed.getD e false = true := (heffs e q (by omega) h3 h4 h5).2 h2
          have hfe := hfl e q (by omega) h3 h4 (by omega) (hap_of e q (by omega) h3 (by omega) (by rw [hsS]; simp; omega))
          have := (tr.old i o ty ad (by omega) hi ho hop hw e q (by omega) (by omega) h3 h4 h5 hfe).2 h1
          rw [hme]; exact this
        · have hme : Hh m = Hh (i + 1) := same_at (i + 1) m (by omega) hm (fun j o g1 g2 g3 g4 g5 => hex ⟨j, o, by omega, g2, g3, g4, g5⟩)
          rw [hme, hh]; exact ha
    have hE := LRel.eval HH M.slots
    have hadOK : opndOK G ad = true := by
      have : ∀ x ∈ o.op.operands.toList, opndOK G x = true := List.all_eq_true.1 hoOK
      exact this ad (by rw [hop]; simp [Op.operands])
    rw [← head] at hnow
    obtain ⟨v', r1, _, r2⟩ := aload_sound HH (hE ad hadOK) hnow
    refine ⟨ρ, a.put o.dst v', w, ⟨slots' (.refl ρ) r2, ⟨m, hm, HH, keepm (Or.inl (by omega))⟩, M.kept, closed'⟩, put_defers _ _ _, fun _ _ => trivial, ⟨m, m, hm, hm, .refl _ _ _, HH, HH, heffs, keepm (Or.inl (by omega))⟩, .one (step_lone_go ?_)⟩
    have hnd : ∀ c, o.op ≠ .defer c := by intro c e; rw [hop] at e; simp at e
    rw [hg hw', Oper.semAt_eq _ _ _ hnd, ← hfin]
    simp [stepG.apply, execOp, hop, r1, Sem.runT_eq]
  | eff o' hi' hw hk ha =>
    rw [ho] at hi'; simp only [Option.some.injEq] at hi'; subst hi'
    -- all effects ahead of it are done, and none behind it
    have hall : ∀ j q, j < n → ops[j]? = some q → kindOf P q.op = 2 → j ≠ i → listed.getD j false = decide (j < i) := by
      intro j q hj hq h2 hne
      exact writers hn D M.closed hi ho hS hd (D.eff i o j q (by simpa using ho) (by simpa using hq) hne hk h2) hj hne
    have hmi : m ≤ i := by
      rcases Nat.lt_or_ge i m with e | e
      · have := (heffs i o hi ho hk hw).2 e; rw [hS] at this; simp at this
      · exact e
    have hHi : Hh i = Hh m := by
      have : ∀ q, m ≤ q → q ≤ i → Hh q = Hh m := by
        intro q
        induction q with
        | zero => intro h1 _; obtain rfl : m = 0 := by omega
                  rfl
        | succ q ih =>
          intro h1 h2
          by_cases e : m = q + 1
          · rw [e]
          · rw [← ih (by omega) (by omega)]
            cases tr.step q (by omega) (by omega) with
            | skip _ _ _ _ hh => exact hh
            | pure _ _ _ _ _ hh => exact hh
            | read _ _ _ _ _ _ _ _ hh => exact hh
            | eff o2 hi2 hw2 hk2 _ =>
              exfalso
              have h3 := hall q o2 (by omega) hi2 hk2 (by omega)
              have h4 := (heffs q o2 (by omega) hi2 hk2 hw2).1 (by rw [h3]; simp; omega)
              omega
      exact this i hmi (Nat.le_refl _)
    rw [hHi, ← aop_congr hops'] at ha
    obtain ⟨ρ', v', w', r1, r2, r3, r4⟩ := op_step hcall HH M.kept M.slots ho hoOK (by rw [hwant]; exact hw) ha (rest := rest) b k cs
    have heffs' : ∀ j q, j < n → ops[j]? = some q → kindOf P q.op = 2 → Region.wanted q (ayielded ops (T j)) = true → ((listed.setIfInBounds i true).getD j false = true ↔ j < i + 1) := by
      intro j q hj hq h2 hw2
      rw [hset]
      by_cases ej : j = i
      · subst ej; simp
      · rw [if_neg ej, hall j q hj hq h2 ej]; simp; omega
    exact ⟨ρ', a.put o.dst v', w', ⟨slots' r3.ext r1, ⟨i + 1, by omega, r2, heffs'⟩, r3.kept HH M.kept, closed'⟩, put_defers _ _ _, fun _ _ => trivial, ⟨m, i + 1, hm, by omega, r3, HH, r2, heffs, heffs'⟩, r4⟩
end Go.AM

/-
  THE ABSTRACT EXECUTOR: a region that draws its order (3): the whole of it.
-/
set_option linter.unusedSimpArgs false
set_option linter.unusedVariables false
namespace Go.AM
variable {P : Program} {G : Nat}

/-- m effects in the text's order are those that S has done. -/
def Cond (P : Program) (ops : Array Oper) (n : Nat) (T : Nat → List Value) (S : Nat → Bool) (m : Nat) : Prop :=
  ∀ j o, j < n → ops[j]? = some o → kindOf P o.op = 2 → Region.wanted o (ayielded ops (T j)) = true → (S j = true ↔ j < m)

theorem Cond.heap {call : ACall} {ops : Array Oper} {n : Nat} {T : Nat → List Value} {Hh : Nat → AHeap} {V : Nat → Value} {S : Nat → Bool} (tr : Trace P call ops 0 n T Hh V) {m1 m2 : Nat} (h1 : m1 ≤ n) (h2 : m2 ≤ n)
    (c1 : Cond P ops n T S m1) (c2 : Cond P ops n T S m2) : Hh m1 = Hh m2 := by
  have key : ∀ a b, a ≤ b → b ≤ n → Cond P ops n T S a → Cond P ops n T S b → Hh b = Hh a := by
    intro a b hab hb ca cb
    have : ∀ q, a ≤ q → q ≤ b → Hh q = Hh a := by
      intro q
      induction q with
      | zero =>
        intro h _
        have : a = 0 := by omega
        subst this; rfl
      | succ q ih =>
        intro h1 h2
        by_cases e : a = q + 1
        · rw [e]
        · rw [← ih (by omega) (by omega)]
          cases tr.step q (by omega) (by omega) with
          | skip _ _ _ _ hh => exact hh
          | pure _ _ _ _ _ hh => exact hh
          | read _ _ _ _ _ _ _ _ hh => exact hh
          | eff o2 hi2 hw2 hk2 _ =>
            exfalso
            have x1 := ca q o2 (by omega) hi2 hk2 hw2
            have x2 := cb q o2 (by omega) hi2 hk2 hw2
            have := x1.1 (x2.2 (by omega))
            omega
    exact this b hab (Nat.le_refl _)
  rcases Nat.le_total m1 m2 with h | h
  · exact (key m1 m2 h h2 c1 c2).symm
  · exact key m2 m1 h h1 c2 c1

def left (n : Nat) (listed : Array Bool) : Nat := ((List.range n).filter fun i => !listed.getD i false).length

theorem left_set {n i : Nat} {listed : Array Bool} (hl : listed.size = n) (hi : i < n) (hS : listed.getD i false = false) : left n (listed.setIfInBounds i true) < left n listed := by
  unfold left
  have hsub : ∀ j, (!(listed.setIfInBounds i true).getD j false) = true → (!listed.getD j false) = true := by
    intro j hj
    rw [setS (by omega)] at hj
    split at hj
    · simp at hj
    · exact hj
  have key : ∀ l : List Nat, (l.filter fun j => !(listed.setIfInBounds i true).getD j false).length ≤ (l.filter fun j => !listed.getD j false).length ∧
      (i ∈ l → (l.filter fun j => !(listed.setIfInBounds i true).getD j false).length < (l.filter fun j => !listed.getD j false).length) := by
    intro l
    induction l with
    | nil => exact ⟨Nat.le_refl _, fun h => by simp at h⟩
    | cons x l ih =>
      simp only [List.filter_cons]
      by_cases hx : x = i
      · subst hx
        have e1 : (!(listed.setIfInBounds x true).getD x false) = false := by rw [setS (by omega)]; simp
        have e2 : (!listed.getD x false) = true := by rw [hS]; rfl
        rw [e1, e2]
        simp only [Bool.false_eq_true, if_false, if_true, List.length_cons]
        exact ⟨by have := ih.1; omega, fun _ => by have := ih.1; omega⟩
      · have e1 : (listed.setIfInBounds i true).getD x false = listed.getD x false := by rw [setS (by omega), if_neg hx]
        rw [e1]
        split
        · simp only [List.length_cons]
          refine ⟨by have := ih.1; omega, fun h => ?_⟩
          have := ih.2 (by rcases List.mem_cons.1 h with h | h; exact absurd h.symm hx; exact h)
          omega
        · exact ⟨ih.1, fun h => ih.2 (by rcases List.mem_cons.1 h with h | h; exact absurd h.symm hx; exact h)⟩
  exact (key (List.range n)).2 (List.mem_range.2 hi)

theorem ready_spec {ops : Array Oper} {listed : Array Bool} {n i : Nat} (hn : ops.size = n) (hl : listed.size = n) (h : i ∈ Region.ready .any ops listed) :
    i < n ∧ listed.getD i false = false ∧ ∃ o, ops[i]? = some o ∧ ∀ e ∈ o.after.toList, Region.binds .any e = true → listed.getD e.on false = true := by
  unfold Region.ready at h
  rw [List.mem_filter] at h
  obtain ⟨hr, h⟩ := h
  have hi : i < n := by have := List.mem_range.1 hr; omega
  simp only [Bool.and_eq_true, Bool.not_eq_true'] at h
  refine ⟨hi, ?_, ops[i], by simp, ?_⟩
  · have := h.1
    simp only [Array.getD_eq_getD_getElem?] at this ⊢
    rw [Array.getElem?_eq_getElem (by omega)] at this ⊢
    simpa using this
  · have := h.2
    rw [Array.getElem?_eq_getElem (by omega)] at this
    simp only [Option.map_some, Option.getD_some, Array.all_eq_true'] at this
    intro e he hb
    have := this e (by simpa using he)
    simpa [hb] using this

theorem ready_nil {ops : Array Oper} {listed : Array Bool} {n : Nat} (hn : ops.size = n) (hl : listed.size = n) (D : DrawOK P ops.toList) (h : Region.ready .any ops listed = []) : ∀ i, i < n → listed.getD i false = true := by
  intro i
  induction i using Nat.strongRecOn with
  | _ i ih =>
    intro hi
    rcases hb : listed.getD i false with _ | _
    · exfalso
      have hm : i ∈ Region.ready .any ops listed := by
        unfold Region.ready
        rw [List.mem_filter]
        refine ⟨List.mem_range.2 (by omega), ?_⟩
        rw [Array.getElem?_eq_getElem (by omega)]
        simp only [Option.map_some, Option.getD_some, Bool.and_eq_true, Bool.not_eq_true', Array.all_eq_true']
        refine ⟨?_, ?_⟩
        · simp only [Array.getD_eq_getD_getElem?] at hb ⊢
          rw [Array.getElem?_eq_getElem (by omega)] at hb ⊢
          simpa using hb
        · intro e he
          rcases hbe : Region.binds .any e with _ | _
          · simp
          · have hlt := D.on i ops[i] (by simp) e (by simpa using he) hbe
            simp [ih e.on hlt (by omega)]
      rw [h] at hm; simp at hm
    · rfl

theorem adraw_sound {W0 : World} (hmix : P.follows .mixedOrders = true) {call : ACall} (hcall : CallOK P G W0 call) {ops : Array Oper} (hops : ops.toList.all (operOK G) = true) (hD : drawOK P ops = true) {s s' : St}
    (h : adraw P call ops (List.range ops.size) s [] [] = some s') {ρ : Rho} {w : World} {a : Act} (H : HRel G ρ s.h w) (K : Kept G W0 w) (ht : LRel ρ s.t a.tmps.toList) (id : Nat) (b : Frame) (k : List Item) (cs : List Frame) :
    ∃ (ρ' : Rho) (a' : Act) (w' : World), HRel G ρ' s'.h w' ∧ LRel ρ' s'.t a'.tmps.toList ∧ a'.defers = a.defers ∧ Fr ρ s.h w ρ' s'.h w' ∧
      Steps P (lone (b.atR a (.code (.region id ops true) :: k)) cs w) (lone (b.atR a' k) cs w') := by
  have D := drawOK_spec hD
  rw [List.range_eq_range'] at h
  obtain ⟨T, Hh, V, t1, t2, t3, t4, tr, _, _⟩ := adraw_trace _ _ h
  simp only [Nat.zero_add] at t3 t4 tr
  generalize hn : ops.size = n at *
  -- the schedule, from a state in its middle
  have go : ∀ (fuel t : Nat) (listed : Array Bool) (ρ1 : Rho) (a1 : Act) (w1 : World), listed.size = n → left n listed ≤ fuel → Mid P G W0 call ops n T Hh V (fun j => listed.getD j false) ρ1 a1 w1 → a1.defers = a.defers →
      (∃ m, m ≤ n ∧ Cond P ops n T (fun j => listed.getD j false) m ∧ Fr ρ (Hh 0) w ρ1 (Hh m) w1) →
      ∃ (ρ' : Rho) (a' : Act) (w' : World), HRel G ρ' (Hh n) w' ∧ LRel ρ' (T n) a'.tmps.toList ∧ a'.defers = a.defers ∧ Fr ρ (Hh 0) w ρ' (Hh n) w' ∧
        Steps P (lone (b.atR a1 (.inRegion ops (Region.linearise.go .any ops fuel t listed []) :: k)) cs w1) (lone (b.atR a' k) cs w') := by
    -- where nothing is left
    have fin : ∀ (listed : Array Bool) (ρ1 : Rho) (a1 : Act) (w1 : World), (∀ i, i < n → listed.getD i false = true) → Mid P G W0 call ops n T Hh V (fun j => listed.getD j false) ρ1 a1 w1 → a1.defers = a.defers →
        (∃ m, m ≤ n ∧ Cond P ops n T (fun j => listed.getD j false) m ∧ Fr ρ (Hh 0) w ρ1 (Hh m) w1) →
        ∃ (ρ' : Rho) (a' : Act) (w' : World), HRel G ρ' (Hh n) w' ∧ LRel ρ' (T n) a'.tmps.toList ∧ a'.defers = a.defers ∧ Fr ρ (Hh 0) w ρ' (Hh n) w' ∧
          Steps P (lone (b.atR a1 (.inRegion ops [] :: k)) cs w1) (lone (b.atR a' k) cs w') := by
      intro listed ρ1 a1 w1 hall M hdf hF
      have cn : Cond P ops n T (fun j => listed.getD j false) n := fun j o hj _ _ _ => ⟨fun _ => hj, fun _ => hall j hj⟩
      obtain ⟨m, hm, HH, hc⟩ := M.heap
      obtain ⟨m2, hm2, hc2, F⟩ := hF
      have e1 : Hh m = Hh n := Cond.heap tr hm (Nat.le_refl _) hc cn
      have e2 : Hh m2 = Hh n := Cond.heap tr hm2 (Nat.le_refl _) hc2 cn
      have e3 : slotsOf ops V (T 0) (fun j => listed.getD j false) n = T n := by
        rw [← slots_trace tr n n (Nat.le_refl _) (Nat.le_refl _)]
        apply List.ext_getElem?
        intro q
        exact slotsOf_congr n (fun j hj _ => by rw [hall j hj]; simp [hj])
      refine ⟨ρ1, a1, w1, by rw [← e1]; exact HH, by rw [← e3]; exact M.slots, hdf, by rw [← e2]; exact F, .one stepR_region_end⟩
    intro fuel
    induction fuel with
    | zero =>
      intro t listed ρ1 a1 w1 hls hleft M hdf hF
      simp only [Region.linearise.go, List.reverse_nil]
      refine fin listed ρ1 a1 w1 (fun i hi => ?_) M hdf hF
      have h0 : left n listed = 0 := by omega
      unfold left at h0
      rw [List.length_eq_zero_iff, List.filter_eq_nil_iff] at h0
      have := h0 i (List.mem_range.2 hi)
      simpa using this
    | succ fuel ih =>
      intro t listed ρ1 a1 w1 hls hleft M hdf hF
      have hgo : Region.linearise.go .any ops (fuel + 1) t listed [] = match (Region.ready .any ops listed)[t % (Region.ready .any ops listed).length]? with
          | some i => Region.linearise.go .any ops fuel (t / (Region.ready .any ops listed).length) (listed.setIfInBounds i true) [i]
          | none => [] := rfl
      rw [hgo]
      cases hi : (Region.ready .any ops listed)[t % (Region.ready .any ops listed).length]? with
      | none =>
        simp only []
        refine fin listed ρ1 a1 w1 (ready_nil hn hls D ?_) M hdf hF
        cases hr : Region.ready .any ops listed with
        | nil => rfl
        | cons x xs =>
          rw [hr] at hi
          have hlt : t % (x :: xs).length < (x :: xs).length := Nat.mod_lt _ (by simp)
          rw [List.getElem?_eq_getElem hlt] at hi
          simp at hi
      | some i =>
        simp only []
        rw [linearise_go_acc, List.reverse_singleton, List.singleton_append]
        obtain ⟨hin, hS, o, ho, hd⟩ := ready_spec hn hls (List.mem_of_getElem? hi)
        obtain ⟨ρ2, a2, w2, M2, hdf2, _, ⟨m, m', hm, hm', F2, _, _, c1, c2⟩, hst⟩ := M.one hcall hops hn hls D tr hin ho hS hd b k cs (Region.linearise.go .any ops fuel (t / (Region.ready .any ops listed).length) (listed.setIfInBounds i true) [])
        obtain ⟨m0, hm0, c0, F0⟩ := hF
        have e0 : Hh m0 = Hh m := Cond.heap tr hm0 hm c0 c1
        rw [e0] at F0
        obtain ⟨ρ', a', w', q1, q2, q3, q4, q5⟩ := ih (t / (Region.ready .any ops listed).length) (listed.setIfInBounds i true) ρ2 a2 w2 (by simpa using hls) (by have := left_set hls hin hS; omega) M2 (hdf2.trans hdf) ⟨m', hm', c2, F0.trans F2⟩
        exact ⟨ρ', a', w', q1, q2, q3, q4, hst.trans q5⟩
  have hgetF : ∀ j, (Array.replicate n false).getD j false = false := by
    intro j
    simp only [Array.getD_eq_getD_getElem?, Array.getElem?_replicate]
    split <;> rfl
  have hslots : slotsOf ops V (T 0) (fun j => (Array.replicate n false).getD j false) n = T 0 := by
    have : ∀ m, slotsOf ops V (T 0) (fun j => (Array.replicate n false).getD j false) m = T 0 := by
      intro m
      induction m with
      | zero => rfl
      | succ m ih =>
        simp only [slotsOf]
        rw [if_neg (by rw [hgetF]; simp)]
        exact ih
    exact this n
  have c0 : Cond P ops n T (fun j => (Array.replicate n false).getD j false) 0 := fun j o hj _ _ _ => ⟨fun e => absurd ((hgetF j).symm.trans e) (by simp), fun e => by omega⟩
  obtain ⟨ρ', a', w', q1, q2, q3, q4, q5⟩ := go n (w.tape w.drawn (.order b.fn id)) (Array.replicate n false) ρ a w.drew (by simp) (by unfold left; have := List.length_filter_le (fun i => !(Array.replicate n false).getD i false) (List.range n); simp only [List.length_range] at this; exact this)
    ⟨by rw [hslots, t1]; exact ht, ⟨0, by omega, by rw [t2]; exact H.drew, c0⟩, K, fun j o _ _ hS => absurd ((hgetF j).symm.trans hS) (by simp)⟩ rfl ⟨0, by omega, c0, by rw [t2]; exact Fr.drew ρ s.h w⟩
  refine ⟨ρ', a', w', by rw [← t4]; exact q1, by rw [← t3]; exact q2, q3, by rw [← t4, ← t2]; exact q4, .head stepR_region_draw ?_⟩
  have : Region.schedule (P.follows .mixedOrders) ops (w.tape w.drawn (.order b.fn id)) = Region.linearise.go .any ops n (w.tape w.drawn (.order b.fn id)) (Array.replicate n false) [] := by
    unfold Region.schedule
    rw [hmix]
    simp only [Bool.true_or, if_true, Region.linearise, hn]
  rw [this]
  exact q5

theorem aregion_sound {W0 : World} (hmix : P.follows .mixedOrders = true) {call : ACall} (hcall : CallOK P G W0 call) {ops : Array Oper} (hops : ops.toList.all (operOK G) = true) {draw : Bool} {s s' : St}
    (h : aregion P call ops draw s = some s') {ρ : Rho} {w : World} {a : Act} (H : HRel G ρ s.h w) (K : Kept G W0 w) (ht : LRel ρ s.t a.tmps.toList) (id : Nat) (b : Frame) (k : List Item) (cs : List Frame) :
    ∃ (ρ' : Rho) (a' : Act) (w' : World), HRel G ρ' s'.h w' ∧ LRel ρ' s'.t a'.tmps.toList ∧ a'.defers = a.defers ∧ Fr ρ s.h w ρ' s'.h w' ∧
      Steps P (lone (b.atR a (.code (.region id ops draw) :: k)) cs w) (lone (b.atR a' k) cs w') := by
  unfold aregion at h
  split at h
  · rename_i hd
    rw [hd]
    split at h
    · rename_i hD
      exact adraw_sound hmix hcall hops hD h H K ht id b k cs
    · simp at h
  · rename_i hd
    have hd' : draw = false := by simpa using hd
    rw [hd']
    obtain ⟨ρ', a', w', q1, q2, q3, q4, q5⟩ := aops_sound hcall hops _ h H K ht b k cs
    exact ⟨ρ', a', w', q1, q2, q3, q4, .head stepR_region q5⟩
end Go.AM

/-
  THE ABSTRACT EXECUTOR: code, functions, rounds: WHAT IT ANSWERS, THE MACHINE DOES.
-/
set_option linter.unusedSimpArgs false
set_option linter.unusedVariables false
namespace Go.AM
variable {P : Program} {G : Nat}

/-! ### Blocks that no abstract object speaks of -/
theorem HRel.junk {ρ : Rho} {h : AHeap} {w : World} (H : HRel G ρ h w) (o : Obj) : HRel G ρ h (w.alloc o) ∧ Fr ρ h w ρ h (w.alloc o) := by
  refine ⟨⟨H.dom, fun b x p hb hp => (H.obj b x p hb hp).mono (.refl ρ) (fun _ => heap_push_old w o (H.lt b p hp)), fun b p hp => by have := H.lt b p hp; simp; omega, H.bd, H.sep, H.glob, H.gown, by have := H.gsz; simp; omega⟩,
    ⟨.refl ρ, by simp, rfl, rfl, rfl, fun b x p hb hx hp _ => ⟨b, x, p, hb, hx, hp, rfl⟩, fun c hc _ => heap_push_old w o hc⟩⟩

theorem own_not_deferred {ρ : Rho} {w : World} {p : Pl} {o : AObj} (ho : o.live = true) (h : ObjRel G ρ w p o) {x : Option (List Deferred)} : w.heap[p.blk]? ≠ some (.deferred x) := by
  cases o with
  | dead => simp [AObj.live] at ho
  | row cs own => obtain ⟨c, t, fz, h1, _⟩ := h; rw [h1]; simp
  | siter s pos => rw [h.1]; simp
  | amap es => obtain ⟨a, b, h1, _⟩ := h; rw [h1]; simp
  | loop st pd ts ps as bd => obtain ⟨L, h1, _⟩ := h; rw [h1]; simp

theorem own_live {o : AObj} (h : o.own = true) : o.live = true := by cases o <;> first | rfl | simp [AObj.own] at h

def marks (Ds : List Nat) : List Deferred := Ds.map fun D => { target := .collected D, args := #[] }

def DefOK (N0 : Nat) (w : World) (ds : List Deferred) : Prop :=
  ∃ Ds : List Nat, ds = marks Ds ∧ Ds.Nodup ∧ ∀ D ∈ Ds, N0 ≤ D ∧ w.heap[D]? = some (.deferred (some []))

theorem lt_of_heap {w : World} {b : Nat} {o : Obj} (h : w.heap[b]? = some o) : b < w.heap.size := by
  rcases Nat.lt_or_ge b w.heap.size with e | e
  · exact e
  · rw [Array.getElem?_eq_none e] at h; simp at h

theorem Fr.keepDeferred {ρ ρ' : Rho} {h h' : AHeap} {w w' : World} (F : Fr ρ h w ρ' h' w') (H : HRel G ρ h w) {D : Nat} {x : Option (List Deferred)} (hD : w.heap[D]? = some (.deferred x)) : w'.heap[D]? = some (.deferred x) := by
  rw [F.keep D (lt_of_heap hD) ?_]
  · exact hD
  · intro b o p hb ho hp e
    have := own_not_deferred (own_live ho) (H.obj b o p hb hp) (x := x)
    rw [e] at this; exact this hD

theorem DefOK.fr {N0 : Nat} {ρ ρ' : Rho} {h h' : AHeap} {w w' : World} {ds : List Deferred} (d : DefOK N0 w ds) (F : Fr ρ h w ρ' h' w') (H : HRel G ρ h w) : DefOK N0 w' ds := by
  obtain ⟨Ds, h1, h2, h3⟩ := d
  exact ⟨Ds, h1, h2, fun D hD => ⟨(h3 D hD).1, F.keepDeferred H (h3 D hD).2⟩⟩

/-! ### Where code arrives -/
def Arr (P : Program) (b : Frame) (k : List Item) (cs : List Frame) (m : Machine) : AExit → Act → World → Prop
  | .normal, a, w => Steps P m (lone (b.atR a k) cs w)
  | .exit id, a, w => ∃ k0, exitTo id k0 = exitTo id k ∧ Steps P m (lone (b.atR a (.code (.exit id) :: k0)) cs w)
  | .ret, a, w => ∃ k0, Steps P m (lone (b.atR a (.code .ret :: k0)) cs w)

theorem Arr.head {b : Frame} {k : List Item} {cs : List Frame} {m m1 : Machine} {e : AExit} {a : Act} {w : World} (h : Steps P m m1) (k1 : Arr P b k cs m1 e a w) : Arr P b k cs m e a w := by
  cases e with
  | normal => exact h.trans k1
  | exit id => obtain ⟨k0, h1, h2⟩ := k1; exact ⟨k0, h1, h.trans h2⟩
  | ret => obtain ⟨k0, h2⟩ := k1; exact ⟨k0, h.trans h2⟩

theorem Arr.pass {b : Frame} {x : Item} {k : List Item} {cs : List Frame} {m : Machine} {e : AExit} {a : Act} {w : World} (hx : ∀ id, exitTo id (x :: k) = exitTo id k) (he : e ≠ .normal) (h : Arr P b (x :: k) cs m e a w) : Arr P b k cs m e a w := by
  cases e with
  | normal => exact absurd rfl he
  | exit id => obtain ⟨k0, h1, h2⟩ := h; exact ⟨k0, h1.trans (hx id), h2⟩
  | ret => exact h

theorem stepR_scope {b : Frame} {a : Act} {k : List Item} {cs : List Frame} {w : World} {c : Code} : step P (lone (b.atR a (.code (.scope c) :: k)) cs w) = .next (lone (b.atR a (.code c :: .inScope c :: k)) cs w) :=
  step_lone_go (by simp [stepG, stepG.exec, Frame.atR])
theorem stepR_inScope {b : Frame} {a : Act} {k : List Item} {cs : List Frame} {w : World} {c : Code} : step P (lone (b.atR a (.inScope c :: k)) cs w) = .next (lone (b.atR a k) cs w) :=
  step_lone_go (by simp [stepG, stepG.exec, Frame.atR])

def RoundOK (ρ : Rho) : Option Nat → Option Nat → Prop
  | none, none => True
  | some l, some c => ∃ p, ρ l = some p ∧ p.blk = c
  | _, _ => False
theorem RoundOK.mono {ρ ρ' : Rho} (h : RhoLe ρ ρ') {x y : Option Nat} (r : RoundOK ρ x y) : RoundOK ρ' x y := by
  cases x <;> cases y <;> first | exact r | (obtain ⟨p, h1, h2⟩ := r; exact ⟨p, h _ _ h1, h2⟩)

/-- What running code comes to. -/
def Goes (P : Program) (G : Nat) (ρ : Rho) (h : AHeap) (w : World) (N0 : Nat) (b : Frame) (k : List Item) (cs : List Frame) (m : Machine) (e : AExit) (s' : St) : Prop :=
  ∃ (ρ' : Rho) (a' : Act) (w' : World), HRel G ρ' s'.h w' ∧ LRel ρ' s'.t a'.tmps.toList ∧ Fr ρ h w ρ' s'.h w' ∧ DefOK N0 w' a'.defers ∧ Arr P b k cs m e a' w'

theorem enterLoop_none (fn : FuncId) (tmps : Array Value) (params : Array Tmp) (as bd : Code) (w : World) :
    (Instr.enterLoop fn tmps params as bd none).run P w = .ok (w.heap.size + 1, [{ target := .collected w.heap.size, args := #[] }])
      ((w.alloc (.deferred (some []))).alloc (.loop { state := .ready, pending := none, fn, tmps, params, assign := as, body := bd, defers := w.heap.size })) := by
  simp [Instr.enterLoop]

theorem enterLoop_some (fn : FuncId) (tmps : Array Value) (params : Array Tmp) (as bd : Code) (w : World) {l : Nat} {L : Loop} (hl : w.heap[l]? = some (.loop L)) :
    (Instr.enterLoop fn tmps params as bd (some l)).run P w = .ok (w.heap.size, [])
      (w.alloc (.loop { state := .ready, pending := none, fn, tmps, params, assign := as, body := bd, defers := L.defers })) := by
  simp [Instr.enterLoop, Instr.getLoop, getObj, Sem.run, hl]

theorem setLoop {ρ : Rho} {h : AHeap} {w : World} (H : HRel G ρ h w) {l : Nat} {p : Pl} {st st' : LoopState} {pd pd' : Option Code} {ts : List Value} {ps : List Tmp} {as bd : Code} (hb : h[l]? = some (.loop st pd ts ps as bd)) (hp : ρ l = some p) :
    ∃ L : Loop, w.heap[p.blk]? = some (.loop L) ∧ L.state = st ∧ L.pending = pd ∧
      HRel G ρ (h.set l (.loop st' pd' ts ps as bd)) { w with heap := w.heap.setIfInBounds p.blk (.loop { L with state := st', pending := pd' }) } ∧
      Fr ρ h w ρ (h.set l (.loop st' pd' ts ps as bd)) { w with heap := w.heap.setIfInBounds p.blk (.loop { L with state := st', pending := pd' }) } := by
  obtain ⟨L, g1, g2⟩ := H.obj l _ p hb hp
  refine ⟨L, g1, g2.state, g2.pending, ?_⟩
  refine H.update hb rfl hp (by simp) rfl rfl rfl ?_ rfl ⟨{ L with state := st', pending := pd' }, ?_, ?_⟩
  · intro c hc
    rw [Array.getElem?_setIfInBounds, if_neg (fun e => hc e.symm)]
  · rw [Array.getElem?_setIfInBounds, if_pos rfl, if_pos (H.lt l p hp)]
  · exact { g2 with state := rfl, pending := rfl, params := g2.params, assign := g2.assign, body := g2.body, tmps := g2.tmps }

theorem exitOf_spec {pd : Option Code} {e : AExit} (h : exitOf pd = some e) : jumpOf e = pd := by
  unfold exitOf at h
  split at h <;> simp only [Option.some.injEq, reduceCtorEq] at h <;> subst h <;> rfl

theorem aex_sound {W0 : World} (hmix : P.follows .mixedOrders = true) {call : ACall} (hcall : CallOK P G W0 call) (n : Nat) : ∀ (c : Code) {ro : Option Nat} {s s' : St} {e : AExit}, aex P call n ro c s = some (e, s') → codeOK G c = true →
    ∀ {ρ : Rho} {w : World} {a : Act}, HRel G ρ s.h w → Kept G W0 w → LRel ρ s.t a.tmps.toList → ∀ (b : Frame), RoundOK ρ ro b.roundOf → ∀ {N0 : Nat}, DefOK N0 w a.defers → N0 ≤ w.heap.size → ∀ (k : List Item) (cs : List Frame),
      Goes P G ρ s.h w N0 b k cs (lone (b.atR a (.code c :: k)) cs w) e s' := by
  intro c
  induction c with
  | skip =>
    intro ro s s' e h _ ρ w a H K ht b hr N0 hd hN k cs
    simp only [aex, Option.some.injEq, Prod.mk.injEq] at h; obtain ⟨rfl, rfl⟩ := h
    exact ⟨ρ, a, w, H, ht, .refl _ _ _, hd, .one stepR_skip⟩
  | label l =>
    intro ro s s' e h _ ρ w a H K ht b hr N0 hd hN k cs
    simp only [aex, Option.some.injEq, Prod.mk.injEq] at h; obtain ⟨rfl, rfl⟩ := h
    exact ⟨ρ, a, w, H, ht, .refl _ _ _, hd, .one stepR_label⟩
  | ret =>
    intro ro s s' e h _ ρ w a H K ht b hr N0 hd hN k cs
    simp only [aex, Option.some.injEq, Prod.mk.injEq] at h; obtain ⟨rfl, rfl⟩ := h
    exact ⟨ρ, a, w, H, ht, .refl _ _ _, hd, k, .refl _ _⟩
  | exit id =>
    intro ro s s' e h _ ρ w a H K ht b hr N0 hd hN k cs
    simp only [aex, Option.some.injEq, Prod.mk.injEq] at h; obtain ⟨rfl, rfl⟩ := h
    exact ⟨ρ, a, w, H, ht, .refl _ _ _, hd, k, rfl, .refl _ _⟩
  | goto l => intro ro s s' e h; simp [aex] at h
  | refuse why => intro ro s s' e h; simp [aex] at h
  | region id ops draw =>
    intro ro s s' e h hc ρ w a H K ht b hr N0 hd hN k cs
    simp only [aex] at h
    split at h
    · rename_i s1 hs
      simp only [Option.some.injEq, Prod.mk.injEq] at h; obtain ⟨rfl, rfl⟩ := h
      obtain ⟨ρ', a', w', q1, q2, q3, q4, q5⟩ := aregion_sound hmix hcall (by simpa [codeOK] using hc) hs H K ht id b k cs
      exact ⟨ρ', a', w', q1, q2, q4, by rw [q3]; exact hd.fr q4 H, q5⟩
    · simp at h
  | seq x y ihx ihy =>
    intro ro s s' e h hc ρ w a H K ht b hr N0 hd hN k cs
    simp only [codeOK, Bool.and_eq_true] at hc
    simp only [aex] at h
    split at h
    · rename_i s1 hs
      obtain ⟨ρ1, a1, w1, q1, q2, q3, q4, q5⟩ := ihx hs hc.1 H K ht b hr hd hN (.code y :: k) cs
      obtain ⟨ρ2, a2, w2, r1, r2, r3, r4, r5⟩ := ihy h hc.2 q1 (q3.kept H K) q2 b (hr.mono q3.ext) q4 (Nat.le_trans hN q3.size) k cs
      exact ⟨ρ2, a2, w2, r1, r2, q3.trans r3, r4, r5.head (.head stepR_seq q5)⟩
    · rename_i r hr1
      rw [h] at hr1
      obtain ⟨ρ1, a1, w1, q1, q2, q3, q4, q5⟩ := ihx h hc.1 H K ht b hr hd hN (.code y :: k) cs
      have hne : e ≠ .normal := fun he => hr1 s' (by rw [he])
      exact ⟨ρ1, a1, w1, q1, q2, q3, q4, (q5.pass (fun id => rfl) hne).head (.one stepR_seq)⟩
  | cond x y z ihy ihz =>
    intro ro s s' e h hc ρ w a H K ht b hr N0 hd hN k cs
    simp only [codeOK, Bool.and_eq_true] at hc
    have hx := LRel.eval H ht x hc.1.1
    simp only [aex] at h
    split at h
    · rename_i hv
      rw [hv] at hx
      obtain ⟨ρ1, a1, w1, q1, q2, q3, q4, q5⟩ := ihy h hc.1.2 H K ht b hr hd hN k cs
      generalize hcc : a.eval x = cc at hx
      cases hx
      exact ⟨ρ1, a1, w1, q1, q2, q3, q4, q5.head (.one (by have := stepR_cond (P := P) (b := b) (a := a) (k := k) (cs := cs) (w := w) (x := y) (y := z) hcc; simpa using this))⟩
    · rename_i hv
      rw [hv] at hx
      obtain ⟨ρ1, a1, w1, q1, q2, q3, q4, q5⟩ := ihz h hc.2 H K ht b hr hd hN k cs
      generalize hcc : a.eval x = cc at hx
      cases hx
      exact ⟨ρ1, a1, w1, q1, q2, q3, q4, q5.head (.one (by have := stepR_cond (P := P) (b := b) (a := a) (k := k) (cs := cs) (w := w) (x := y) (y := z) hcc; simpa using this))⟩
    · simp at h
  | block id body ih =>
    intro ro s s' e h hc ρ w a H K ht b hr N0 hd hN k cs
    simp only [codeOK] at hc
    simp only [aex] at h
    split at h
    · rename_i i s1 hs
      obtain ⟨ρ1, a1, w1, q1, q2, q3, q4, q5⟩ := ih hs hc H K ht b hr hd hN (.inBlock id :: k) cs
      obtain ⟨k0, h1, h2⟩ := q5
      split at h
      · rename_i hid
        subst hid
        simp only [Option.some.injEq, Prod.mk.injEq] at h; obtain ⟨rfl, rfl⟩ := h
        refine ⟨ρ1, a1, w1, q1, q2, q3, q4, Steps.head stepR_block (h2.trans (.one (stepR_exit ?_)))⟩
        rw [h1]; simp [exitTo]
      · rename_i hid
        simp only [Option.some.injEq, Prod.mk.injEq] at h; obtain ⟨rfl, rfl⟩ := h
        refine ⟨ρ1, a1, w1, q1, q2, q3, q4, k0, ?_, .head stepR_block h2⟩
        rw [h1]
        simp only [exitTo]
        rw [if_neg]
        simpa using fun e => hid e.symm
    · rename_i r hr1
      rw [h] at hr1
      obtain ⟨ρ1, a1, w1, q1, q2, q3, q4, q5⟩ := ih h hc H K ht b hr hd hN (.inBlock id :: k) cs
      cases e with
      | normal => exact ⟨ρ1, a1, w1, q1, q2, q3, q4, Steps.head stepR_block (Steps.trans q5 (.one stepR_inBlock))⟩
      | exit i => exact absurd rfl (hr1 i s')
      | ret => exact ⟨ρ1, a1, w1, q1, q2, q3, q4, by obtain ⟨k0, hk⟩ := q5; exact ⟨k0, .head stepR_block hk⟩⟩
  | scope body ih =>
    intro ro s s' e h hc ρ w a H K ht b hr N0 hd hN k cs
    simp only [codeOK] at hc
    simp only [aex] at h
    obtain ⟨ρ1, a1, w1, q1, q2, q3, q4, q5⟩ := ih h hc H K ht b hr hd hN (.inScope body :: k) cs
    refine ⟨ρ1, a1, w1, q1, q2, q3, q4, ?_⟩
    by_cases he : e = .normal
    · subst he; exact Steps.head stepR_scope (Steps.trans q5 (.one stepR_inScope))
    · exact (q5.pass (fun id => rfl) he).head (.one stepR_scope)
  | loop body ih =>
    intro ro s s' e h hc ρ w a H K ht b hr N0 hd hN k cs
    simp only [codeOK] at hc
    simp only [aex] at h
    have key : ∀ (m : Nat) {s : St} {ρ : Rho} {w : World} {a : Act}, aloop (aex P call n ro body) m s = some (e, s') → HRel G ρ s.h w → Kept G W0 w → LRel ρ s.t a.tmps.toList → RoundOK ρ ro b.roundOf → DefOK N0 w a.defers → N0 ≤ w.heap.size →
        Goes P G ρ s.h w N0 b k cs (lone (b.atR a (.code body :: .inLoop body :: k)) cs w) e s' := by
      intro m
      induction m with
      | zero => intro s ρ w a h; simp [aloop] at h
      | succ m ihm =>
        intro s ρ w a h H K ht hr hd hN
        simp only [aloop] at h
        split at h
        · rename_i s1 hs
          obtain ⟨ρ1, a1, w1, q1, q2, q3, q4, q5⟩ := ih hs hc H K ht b hr hd hN (.inLoop body :: k) cs
          obtain ⟨ρ2, a2, w2, r1, r2, r3, r4, r5⟩ := ihm h q1 (q3.kept H K) q2 (hr.mono q3.ext) q4 (Nat.le_trans hN q3.size)
          exact ⟨ρ2, a2, w2, r1, r2, q3.trans r3, r4, r5.head (Steps.trans q5 (.one stepR_inLoop))⟩
        · rename_i r hr1
          rw [h] at hr1
          obtain ⟨ρ1, a1, w1, q1, q2, q3, q4, q5⟩ := ih h hc H K ht b hr hd hN (.inLoop body :: k) cs
          have hne : e ≠ .normal := fun he => hr1 s' (by rw [he])
          exact ⟨ρ1, a1, w1, q1, q2, q3, q4, q5.pass (fun id => rfl) hne⟩
    obtain ⟨ρ1, a1, w1, q1, q2, q3, q4, q5⟩ := key n h H K ht hr hd hN
    exact ⟨ρ1, a1, w1, q1, q2, q3, q4, q5.head (.one stepR_loop)⟩
  | rangeFunc f params as bd iha ihb =>
    intro ro s s' e h hc ρ w a H K ht b hr N0 hd hN k cs
    simp only [codeOK, Bool.and_eq_true] at hc
    have hf := LRel.eval H ht f hc.1.1
    simp only [aex] at h
    split at h
    · rename_i g first captured hfv
      rw [hfv] at hf
      generalize hcc : a.eval f = cc at hf
      cases hf with
      | func _ hx hy h1 h2 =>
        rename_i first' captured'
        split at h
        · rename_i hin
          split at h
          · rename_i v0 h0 hres
            split at h
            · rename_i st pending ts ps as' bd' hl
              split at h
              · simp at h
              · rename_i hbusy
                split at h
                · rename_i e0 he0
                  simp only [Option.some.injEq, Prod.mk.injEq] at h
                  obtain ⟨rfl, rfl⟩ := h
                  -- the record is laid
                  have enter : ∃ (lc : Nat) (mark : List Deferred) (w1 : World), (Instr.enterLoop b.fn a.tmps params as bd b.roundOf).run P w = .ok (lc, mark) w1 ∧ DefOK N0 w1 (mark ++ a.defers) ∧
                      ∃ en, HRel G (upd ρ s.h.length ⟨lc, 0, en⟩) (s.h ++ [.loop .ready none s.t params.toList as bd]) w1 ∧ Fr ρ s.h w (upd ρ s.h.length ⟨lc, 0, en⟩) (s.h ++ [.loop .ready none s.t params.toList as bd]) w1 := by
                    have hloop : ∀ {w2 : World} {ρ2 : Rho} {D : Nat}, RhoLe ρ ρ2 → LoopIs ρ2 G { state := .ready, pending := none, fn := b.fn, tmps := a.tmps, params, assign := as, body := bd, defers := D } .ready none s.t params.toList as bd :=
                      fun hle => ⟨rfl, rfl, rfl, rfl, rfl, ht.mono hle, hc.1.2, hc.2⟩
                    cases hbr : b.roundOf with
                    | none =>
                      obtain ⟨J1, J2⟩ := H.junk (.deferred (some []))
                      obtain ⟨k1, k2⟩ := J1.alloc (oc := .loop { state := .ready, pending := none, fn := b.fn, tmps := a.tmps, params, assign := as, body := bd, defers := w.heap.size }) (oa := .loop .ready none s.t params.toList as bd) (sh := 0) (en := 0)
                        ⟨_, heap_push_new _ _, hloop (w2 := w) (J1.updLe _)⟩
                      simp only [World.size_alloc] at k1 k2
                      refine ⟨w.heap.size + 1, _, _, enterLoop_none _ _ _ _ _ w, ?_, 0, k1, J2.trans k2⟩
                      obtain ⟨Ds, d1, d2, d3⟩ := hd.fr (J2.trans k2) H
                      refine ⟨w.heap.size :: Ds, by rw [d1]; rfl, ?_, ?_⟩
                      · rw [List.nodup_cons]
                        refine ⟨fun hm => ?_, d2⟩
                        obtain ⟨Ds0, e1, e2, e3⟩ := hd
                        have : Ds0 = Ds := by
                          have := d1.symm.trans e1
                          unfold marks at this
                          have hinj : ∀ {x y : List Nat}, x.map (fun D => ({ target := .collected D, args := #[] } : Deferred)) = y.map (fun D => ({ target := .collected D, args := #[] } : Deferred)) → x = y := by
                            intro x
                            induction x with
                            | nil => intro y hxy; cases y with
                              | nil => rfl
                              | cons _ _ => simp at hxy
                            | cons a x ih => intro y hxy; cases y with
                              | nil => simp at hxy
                              | cons b y => simp at hxy; rw [hxy.1, ih (by simpa using hxy.2)]
                          exact (hinj this).symm
                        subst this
                        have := lt_of_heap (e3 _ hm).2
                        omega
                      · intro D hD
                        rcases List.mem_cons.1 hD with rfl | hD
                        · refine ⟨hN, ?_⟩
                          rw [heap_push_old _ _ (by simp)]
                          exact heap_push_new w _
                        · exact d3 D hD
                    | some lc =>
                      cases ro with
                      | none => rw [hbr] at hr; exact hr.elim
                      | some l =>
                        rw [hbr] at hr
                        obtain ⟨p, hp, rfl⟩ := hr
                        simp only [inRound] at hin
                        split at hin
                        · rename_i hlo
                          obtain ⟨L, g1, g2⟩ := H.obj l _ p hlo hp
                          obtain ⟨k1, k2⟩ := H.alloc (oc := .loop { state := .ready, pending := none, fn := b.fn, tmps := a.tmps, params, assign := as, body := bd, defers := L.defers }) (oa := .loop .ready none s.t params.toList as bd) (sh := 0) (en := 0)
                            ⟨_, heap_push_new _ _, hloop (w2 := w) (H.updLe _)⟩
                          exact ⟨w.heap.size, [], _, enterLoop_some _ _ _ _ _ w g1, hd.fr k2 H, 0, k1, k2⟩
                        · simp at hin
                  obtain ⟨lc, mark, w1, hent, hd1, en, H1, F1⟩ := enter
                  have hρl : upd ρ s.h.length ⟨lc, 0, en⟩ s.h.length = some ⟨lc, 0, en⟩ := upd_same _ _ _
                  -- the call
                  have hall : LRel (upd ρ s.h.length ⟨lc, 0, en⟩) (first.toList ++ [.func (.yield s.h.length) #[] #[]] ++ captured.toList) (first' ++ #[Value.func (.yield lc) #[] #[]] ++ captured').toList := by
                    simp only [Array.toList_append]
                    exact (((LRel.toArray hx h1).mono F1.ext).append (.cons (.yield hρl) .nil)).append ((LRel.toArray hy h2).mono F1.ext)
                  obtain ⟨c1, c2⟩ := hcall (.fn g) _ _ _ _ hres _ w1 _ H1 (F1.kept H K) hall
                  obtain ⟨ρ2, v2, w2, fr, r1, r2, r3, r4, r5, r6⟩ := c2 (b.atR { a with defers := mark ++ a.defers } (.inRangeFunc lc :: k) :: cs)
                  have hρ2 : ρ2 s.h.length = some ⟨lc, 0, en⟩ := r3.ext _ _ hρl
                  obtain ⟨L, l1, l2, l3, l4, l5⟩ := setLoop r2 (st' := .exhausted) (pd' := pending) hl hρ2
                  have hend : (Instr.endLoop lc).run P w2 = .ok pending { w2 with heap := w2.heap.setIfInBounds lc (.loop { L with state := .exhausted, pending := pending }) } := by
                    have e1 : (L.state == LoopState.busy) = false := by rw [l2]; simpa using hbusy
                    have e2 : { L with state := .exhausted } = { L with state := .exhausted, pending := pending } := by rw [← l3]
                    simp only [Instr.endLoop, Instr.getLoop, getObj, setObj, Sem.run_bind, Sem.run]
                    rw [show w2.heap[lc]? = some (.loop L) from l1]
                    simp only [Sem.run, Result.andThen_ok, Sem.run_bind, Sem.run_pure, e1, Bool.false_eq_true, if_false, l3]
                    rw [show w2.heap[lc]? = some (.loop L) from l1]
                    simp only [e2]
                    simp [← l3, e2]
                  refine ⟨ρ2, { a with defers := mark ++ a.defers }, _, l4, ht.mono (F1.ext.trans r3.ext), F1.trans (r3.trans l5), ((hd1.fr r3 H1).fr l5 r2), ?_⟩
                  have hst1 : step P (lone (b.atR a (.code (.rangeFunc f params as bd) :: k)) cs w) = .next (lone (Frame.enter P g (first' ++ #[Value.func (.yield lc) #[] #[]] ++ captured') .normal) (b.atR { a with defers := mark ++ a.defers } (.inRangeFunc lc :: k) :: cs) w1) := by
                    refine stepR_rangeFunc (d := { target := .fn (.func g) captured', args := first' ++ #[Value.func (.yield lc) #[] #[]] }) (w₁' := w1) hent ?_ ?_
                    · show (Deferred.ofValue (a.eval f) _).run P w1 = _
                      rw [hcc]
                      simp [Deferred.ofValue, Act.eval]
                    · simpa [invoke] using c1
                  have hst2 : step P (lone fr (b.atR { a with defers := mark ++ a.defers } (.inRangeFunc lc :: k) :: cs) w2) = .next (lone (b.atR { a with defers := mark ++ a.defers } (.endRangeFunc lc :: k)) cs w2) := by
                    have := step_leave_returned (P := P) (c := b.atR { a with defers := mark ++ a.defers } (.inRangeFunc lc :: k)) (cs := cs) r6
                    rw [finish_atR_inRangeFunc] at this; exact this
                  have hst3 := stepR_endRangeFunc (P := P) (b := b) (a := { a with defers := mark ++ a.defers }) (k := k) (cs := cs) hend
                  have hall3 := Steps.head hst1 (r4.trans (.head hst2 (.one hst3)))
                  have hj := exitOf_spec he0
                  subst hj
                  cases e0 with
                  | normal => exact hall3
                  | ret => exact ⟨k, hall3⟩
                  | exit id => exact ⟨k, rfl, hall3⟩
                · simp at h
            · simp at h
          · simp at h
        · simp at h
    · simp at h
end Go.AM

/-
  THE ABSTRACT EXECUTOR: calls: THE THEOREM.
-/
set_option linter.unusedSimpArgs false
set_option linter.unusedVariables false
namespace Go.AM
variable {P : Program} {G : Nat}

/-! ### Results -/
/-- One result. -/
def resOf (tmps : Array Value) : ResultVar → Sem Value
  | .tmp i => pure (tmps.getD i undef)
  | .cell a ty => do loadVar ty (← asAddr (tmps.getD a undef))

theorem aresultsL_sound {ρ : Rho} {h : AHeap} {w : World} (H : HRel G ρ h w) {t : List Value} {tmps : Array Value} (ht : LRel ρ t tmps.toList) : ∀ {rs : List ResultVar} {vs : List Value}, aresultsL P t h rs = some vs →
    ∃ vs', (rs.mapM (resOf tmps)).run P w = .ok vs' w ∧ LRel ρ vs vs' := by
  intro rs
  induction rs with
  | nil => intro vs h; simp only [aresultsL, Option.some.injEq] at h; subst h; exact ⟨[], rfl, .nil⟩
  | cons r rs ih =>
    intro vs hv
    simp only [aresultsL] at hv
    split at hv
    · rename_i v vs1 hr hrs
      simp only [Option.some.injEq] at hv; subst hv
      obtain ⟨vs', h1, h2⟩ := ih hrs
      have hr' : ∃ v', (resOf tmps r).run P w = .ok v' w ∧ VRel ρ v v' := by
        cases r with
        | tmp i =>
          simp only [aresult, Option.some.injEq] at hr; subst hr
          have := ht.getD i
          exact ⟨tmps.getD i undef, rfl, by simpa using this⟩
        | cell a ty =>
          simp only [aresult] at hr
          have hga := ht.getD a
          have e : tmps.toList.getD a undef = tmps.getD a undef := by simp
          rw [e] at hga
          obtain ⟨v', _, ⟨x, e1, e2⟩, h4⟩ := aload_sound H hga hr
          exact ⟨v', by simp only [resOf]; rw [e1]; simp [asAddr, e2], h4⟩
      obtain ⟨v', h3, h4⟩ := hr'
      refine ⟨v' :: vs', ?_, .cons h4 h2⟩
      rw [List.mapM_cons, Sem.run_bind, h3]
      simp only [Result.andThen_ok, Sem.run_bind]
      rw [h1]; rfl
    · simp at hv

theorem aresults_sound {ρ : Rho} {h : AHeap} {w : World} (H : HRel G ρ h w) {t : List Value} {tmps : Array Value} (ht : LRel ρ t tmps.toList) {fn : Func} {v : Value} (hv : aresults P fn.results.toList t h = some v) :
    ∃ v', (results fn tmps).run P w = .ok v' w ∧ VRel ρ v v' := by
  unfold aresults at hv
  have key : ∀ {vs : List Value}, aresultsL P t h fn.results.toList = some vs → ∃ vs' : List Value, (results fn tmps).run P w = .ok (if h : vs'.toArray.size = 1 then vs'.toArray[0] else .tuple vs'.toArray) w ∧ LRel ρ vs vs' := by
    intro vs hvs
    obtain ⟨vs', h1, h2⟩ := aresultsL_sound H ht hvs
    refine ⟨vs', ?_, h2⟩
    have e : results fn tmps = (do
        let vs ← fn.results.mapM (resOf tmps)
        pure (if h : vs.size = 1 then vs[0] else .tuple vs)) := rfl
    rw [e, Array.mapM_eq_mapM_toList, Sem.run_bind, Sem.run_map]
    rw [h1]
    simp only [Result.andThen_ok, Sem.run_pure]
  split at hv
  · rename_i v0 hvs
    simp only [Option.some.injEq] at hv; subst hv
    obtain ⟨vs', h1, h2⟩ := key hvs
    cases h2 with
    | cons h3 h4 =>
      cases h4
      exact ⟨_, by rw [h1]; simp, h3⟩
  · rename_i vs hne hvs
    simp only [Option.some.injEq] at hv; subst hv
    obtain ⟨vs', h1, h2⟩ := key hvs
    refine ⟨.tuple vs'.toArray, ?_, h2.tuple⟩
    rw [h1, dif_neg]
    intro hs
    have hl := h2.length
    have : vs.length = 1 := by rw [hl]; simpa using hs
    match vs, this with
    | [x], _ => exact hne x rfl
  · simp at hv

/-! ### Leaving -/
theorem unwind_marks {ρ0 ρ : Rho} {h0 h : AHeap} {w0 : World} : ∀ (Ds : List Nat) {w : World} (fr : Frame), fr.mode = .returning → fr.defers = marks Ds → Ds.Nodup → (∀ D ∈ Ds, w0.heap.size ≤ D ∧ w.heap[D]? = some (.deferred (some []))) →
    HRel G ρ h w → Fr ρ0 h0 w0 ρ h w → ∀ (cs : List Frame), ∃ w', HRel G ρ h w' ∧ Fr ρ0 h0 w0 ρ h w' ∧ Steps P (lone fr cs w) (lone { fr with defers := [] } cs w') := by
  intro Ds
  induction Ds with
  | nil =>
    intro w fr hm hd _ _ H F cs
    refine ⟨w, H, F, ?_⟩
    have : { fr with defers := [] } = fr := by
      have : fr.defers = [] := hd
      cases fr; simp_all
    rw [this]; exact .refl _ _
  | cons D Ds ih =>
    intro w fr hm hd hnd hD H F cs
    obtain ⟨hge, hb⟩ := hD D (by simp)
    let w1 : World := { w with heap := w.heap.setIfInBounds D (.deferred none) }
    have hk : (Instr.takeDeferred D).run P w = .ok [] w1 := by
      simp [Instr.takeDeferred, getObj, setObj, Sem.run, hb, w1]
    have hother : ∀ c, c ≠ D → w1.heap[c]? = w.heap[c]? := by
      intro c hc; show (w.heap.setIfInBounds D _)[c]? = _; rw [Array.getElem?_setIfInBounds, if_neg (fun e => hc e.symm)]
    have hsz : w1.heap.size = w.heap.size := by show (w.heap.setIfInBounds D _).size = _; simp
    have H1 : HRel G ρ h w1 := by
      refine ⟨H.dom, fun b o p hbo hp => (H.obj b o p hbo hp).mono (.refl ρ) (fun hl => hother _ (fun e => ?_)), fun b p hp => by have := H.lt b p hp; omega, H.bd, H.sep, H.glob, H.gown, by have := H.gsz; omega⟩
      have := own_not_deferred hl (H.obj b o p hbo hp) (x := some [])
      rw [e] at this; exact this hb
    have F1 : Fr ρ0 h0 w0 ρ h w1 := ⟨F.ext, by have := F.size; omega, F.tape, F.os, F.output, F.own, fun c hc hn => by rw [hother c (by omega)]; exact F.keep c hc hn⟩
    rw [List.nodup_cons] at hnd
    obtain ⟨w', r1, r2, r3⟩ := ih { fr with defers := marks Ds } hm rfl hnd.2 (fun D' hD' => by
      have := hD D' (by simp [hD'])
      exact ⟨this.1, by rw [hother D' (fun e => hnd.1 (e ▸ hD'))]; exact this.2⟩) H1 F1 cs
    refine ⟨w', r1, r2, .head ?_ r3⟩
    have := step_collected (P := P) (fr := fr) (cs := cs) (w := w) (w' := w1) (d := { target := .collected D, args := #[] }) (r := D) (ds := marks Ds) (calls := []) (by rw [hm]; simp) (by rw [hd]; rfl) rfl hk
    simpa using this

/-! ### The program -/
/-- Every function with a body: its code names no memory, and it is not the runtime's counter of goroutines. -/
def progOK (P : Program) : Bool :=
  P.funcs.toList.all fun fn => match fn.body with
    | some c => codeOK P.globals.size c && !(fn.name == "runtime.NumGoroutine")
    | none => true

theorem progOK_spec (h : progOK P = true) {f : FuncId} {fn : Func} {c : Code} (hf : P.funcs[f]? = some fn) (hb : fn.body = some c) : codeOK P.globals.size c = true ∧ (fn.name == "runtime.NumGoroutine") = false := by
  have hm : fn ∈ P.funcs.toList := by rw [Array.mem_toList_iff]; exact Array.mem_of_getElem? hf
  have := List.all_eq_true.1 h fn hm
  rw [hb] at this
  simpa using this

/-- A contract that was proved elsewhere. -/
def ExtOK (P : Program) (W0 : World) (X : Ext) : Prop :=
  ∀ (f : FuncId) (c : List Value → AHeap → Option (Value × AHeap)), X f = some c → ∀ (args : List Value) (h : AHeap) (v : Value) (h' : AHeap), c args h = some (v, h') →
    ∀ (ρ : Rho) (w : World) (args' : Array Value), HRel P.globals.size ρ h w → Kept P.globals.size W0 w → LRel ρ args args'.toList → FnOK P P.globals.size ρ h w f args' v h'

theorem zip_fold {ρ : Rho} : ∀ {ps : List Tmp} {args args' : List Value} {ts ts' : List Value}, LRel ρ args args' → LRel ρ ts ts' →
    LRel ρ ((ps.zip args).foldl (fun t p => t.set p.1 p.2) ts) ((ps.zip args').foldl (fun t p => t.set p.1 p.2) ts') := by
  intro ps
  induction ps with
  | nil => intro args args' ts ts' _ ht; simpa using ht
  | cons p ps ih =>
    intro args args' ts ts' ha ht
    cases ha with
    | nil => simpa using ht
    | cons hv ha => simp only [List.zip_cons_cons, List.foldl_cons]; exact ih ha (ht.set hv p)

theorem zip_fold_arr (ps : List Tmp) (args : List Value) : ∀ (ts : Array Value), ((ps.zip args).foldl (fun (tmps : Array Value) (p : Tmp × Value) => tmps.setIfInBounds p.1 p.2) ts).toList = (ps.zip args).foldl (fun t p => t.set p.1 p.2) ts.toList := by
  induction ps generalizing args with
  | nil => intro ts; simp
  | cons p ps ih =>
    intro ts
    cases args with
    | nil => simp
    | cons a args => simp only [List.zip_cons_cons, List.foldl_cons]; rw [ih]; simp

theorem acall_sound {W0 : World} (hmix : P.follows .mixedOrders = true) (hP : progOK P = true) {X : Ext} (hX : ExtOK P W0 X) : ∀ n, CallOK P P.globals.size W0 (acall P X n) := by
  intro n
  induction n with
  | zero => intro g args h v h' hc; simp [acall] at hc
  | succ n ih =>
    intro g args h v h' hc ρ w args' H K ha
    cases g with
    | fn f =>
      simp only [acall] at hc
      split at hc
      · rename_i c hx
        exact hX f c hx args h v h' hc ρ w args' H K ha
      · split at hc
        · rename_i fn hfn
          split at hc
          · rename_i c hb
            obtain ⟨hcode, hname⟩ := progOK_spec hP hfn hb
            refine ⟨by simp only [callFunc, Sem.run_bind, run_program, Result.andThen_ok, hfn, hname, hb, Option.isNone_some, Bool.false_eq_true, if_false, Sem.run_pure], fun cs => ?_⟩
            -- the frame
            let a0 : Act := { tmps := args' ++ Array.replicate (fn.ntmps - args'.size) undef, defers := [] }
            let b0 : Frame := { (default : Frame) with fn := f, kind := .normal, roundOf := none }
            have hfr : Frame.enter P f args' .normal = b0.atR a0 [.code c] := by
              simp [Frame.enter, hfn, hb, Frame.atR, a0, b0]
            have hlen := ha.length
            have ht0 : LRel ρ (args ++ List.replicate (fn.ntmps - args.length) undef) a0.tmps.toList := by
              simp only [a0, Array.toList_append, Array.toList_replicate]
              rw [show args'.size = args.length by simpa using hlen.symm]
              exact ha.append (.replicate (.undef ρ) _)
            have hd0 : DefOK w.heap.size w a0.defers := ⟨[], rfl, List.nodup_nil, fun D hD => by simp at hD⟩
            -- how it ends
            have done : ∀ {s : St} {todo : List Item} {ρ1 : Rho} {a1 : Act} {w1 : World}, HRel P.globals.size ρ1 s.h w1 → LRel ρ1 s.t a1.tmps.toList → Fr ρ h w ρ1 s.h w1 → DefOK w.heap.size w1 a1.defers →
                Steps P (lone (Frame.enter P f args' .normal) cs w) (lone { b0.atR a1 todo with mode := .returning } cs w1) → aresults P fn.results.toList s.t s.h = some v → s.h = h' →
                ∃ (ρ' : Rho) (v' : Value) (w' : World) (fr : Frame), VRel ρ' v v' ∧ HRel P.globals.size ρ' h' w' ∧ Fr ρ h w ρ' h' w' ∧ Steps P (lone (Frame.enter P f args' .normal) cs w) (lone fr cs w') ∧ fr.fn = f ∧ fr.leaving P w' (.returned v') := by
              intro s todo ρ1 a1 w1 H1 t1 F1 d1 st hr hh
              subst hh
              obtain ⟨Ds, e1, e2, e3⟩ := d1
              obtain ⟨w2, H2, F2, st2⟩ := unwind_marks (P := P) Ds { b0.atR a1 todo with mode := .returning } rfl e1 e2 e3 H1 F1 cs
              obtain ⟨v', r1, r2⟩ := aresults_sound H2 t1 hr
              exact ⟨ρ1, v', w2, _, r2, H2, F2, st.trans st2, rfl, rfl, rfl, rfl, fn, hfn, r1⟩
            split at hc
            · rename_i s hs
              split at hc
              · rename_i v1 hv1
                simp only [Option.some.injEq, Prod.mk.injEq] at hc
                obtain ⟨rfl, hh⟩ := hc
                obtain ⟨ρ1, a1, w1, q1, q2, q3, q4, q5⟩ := aex_sound hmix ih n c hs hcode H K ht0 b0 (ro := none) trivial hd0 (Nat.le_refl _) [] cs
                exact done (todo := []) q1 q2 q3 q4 (by rw [hfr]; exact Steps.trans q5 (.one (stepR_end rfl))) hv1 hh
              · simp at hc
            · rename_i s hs
              split at hc
              · rename_i v1 hv1
                simp only [Option.some.injEq, Prod.mk.injEq] at hc
                obtain ⟨rfl, hh⟩ := hc
                obtain ⟨ρ1, a1, w1, q1, q2, q3, q4, ⟨k0, q5⟩⟩ := aex_sound hmix ih n c hs hcode H K ht0 b0 (ro := none) trivial hd0 (Nat.le_refl _) [] cs
                exact done (todo := .code .ret :: k0) q1 q2 q3 q4 (by rw [hfr]; exact Steps.trans q5 (.one (stepR_ret rfl))) hv1 hh
              · simp at hc
            · simp at hc
          · simp at hc
        · simp at hc
    | yield l =>
      simp only [acall] at hc
      split at hc
      · rename_i pd ts ps assign body hl
        split at hc
        · rename_i hlen
          split at hc
          · rename_i s hs
            split at hc
            · rename_i pd' ts' ps' as' bd' hl2
              split at hc
              · rename_i e s2 hs2
                split at hc
                · rename_i st2 pd2 ts2 ps2 as2 bd2 hl3
                  simp only [Option.some.injEq, Prod.mk.injEq] at hc
                  obtain ⟨rfl, rfl⟩ := hc
                  obtain ⟨p, hp⟩ := H.dom l _ hl rfl
                  obtain ⟨L, g1, g2⟩ := H.obj l _ p hl hp
                  have hal := ha.length
                  let tm : Array Value := (L.params.zip args').foldl (fun tmps (t, a) => tmps.setIfInBounds t a) L.tmps
                  have htm : LRel ρ ((ps.zip args).foldl (fun t p => t.set p.1 p.2) ts) tm.toList := by
                    have e1 : tm.toList = (ps.zip args'.toList).foldl (fun t p => t.set p.1 p.2) L.tmps.toList := by
                      have : tm = (L.params.toList.zip args'.toList).foldl (fun (tmps : Array Value) (p : Tmp × Value) => tmps.setIfInBounds p.1 p.2) L.tmps := by
                        simp only [tm]
                        rw [← Array.foldl_toList, Array.toList_zip]
                      rw [this, zip_fold_arr, g2.params]
                    rw [e1]; exact zip_fold ha g2.tmps
                  refine ⟨p, L.fn, tm, L.assign, L.body, hp, ?_, fun c cs => ?_⟩
                  · have hsz : args'.size = L.params.size := by
                      have e1 : L.params.toList.length = ps.length := by rw [g2.params]
                      simp only [Array.length_toList] at e1 hal; omega
                    simp only [Instr.yield, Instr.getLoop, getObj, Sem.run_bind, Sem.run]
                    rw [g1]
                    simp only [Sem.run, Result.andThen_ok, Sem.run_bind, Sem.run_pure]
                    rw [if_neg (by omega)]
                    rfl
                  · rw [g2.assign, g2.body]
                    let a0 : Act := { tmps := tm, defers := [] }
                    let b0 : Frame := { (default : Frame) with fn := L.fn, kind := .normal, roundOf := some p.blk }
                    have hfr : Frame.round p.blk L.fn tm assign body .normal = b0.atR a0 [.code assign, .beginRound, .code body] := by simp [Frame.round, Frame.atR, a0, b0]
                    have hd0 : DefOK w.heap.size w a0.defers := ⟨[], rfl, List.nodup_nil, fun D hD => by simp at hD⟩
                    obtain ⟨ρ1, a1, w1, q1, q2, q3, q4, q5⟩ := aex_sound hmix ih n assign hs g2.okA H K htm b0 (ro := some l) ⟨p, hp, rfl⟩ hd0 (Nat.le_refl _) [.beginRound, .code body] (c :: cs)
                    have hp1 := q3.ext _ _ hp
                    obtain ⟨L1, l1, l2, l3, l4, l5⟩ := setLoop q1 (st' := .busy) (pd' := pd') hl2 hp1
                    have hbr : (Instr.beginRound p.blk).run P w1 = .ok () { w1 with heap := w1.heap.setIfInBounds p.blk (.loop { L1 with state := .busy, pending := pd' }) } := by
                      have e2 : ({ L1 with state := .busy } : Loop) = { L1 with state := .busy, pending := pd' } := by rw [← l3]
                      simp only [Instr.beginRound, Instr.getLoop, getObj, setObj, Sem.run_bind, Sem.run]
                      rw [l1]
                      simp only [Sem.run, Result.andThen_ok, Sem.run_bind, Sem.run_pure, l2]
                      rw [l1]
                      simp only [← e2]
                      rfl
                    obtain ⟨ρ2, a2, w2, u1, u2, u3, u4, u5⟩ := aex_sound hmix ih n body hs2 g2.okB l4 (l5.kept q1 (q3.kept H K)) q2 b0 (ro := some l) ⟨p, hp1, rfl⟩ (q4.fr l5 q1) (by have h1 := q3.size; have h2 := l5.size; omega) [] (c :: cs)
                    have hp2 := u3.ext _ _ hp1
                    obtain ⟨L2, m1, m2, m3, m4, m5⟩ := setLoop u1 (st' := if (jumpOf e).isNone then .ready else .done) (pd' := jumpOf e) hl3 hp2
                    have her : (Instr.endRound p.blk (jumpOf e)).run P w2 = .ok (.bool (jumpOf e).isNone) { w2 with heap := w2.heap.setIfInBounds p.blk (.loop { L2 with state := if (jumpOf e).isNone then .ready else .done, pending := jumpOf e }) } := by
                      simp only [Instr.endRound, Instr.getLoop, getObj, setObj, Sem.run_bind, Sem.run]
                      rw [m1]
                      simp only [Sem.run, Result.andThen_ok, Sem.run_bind, Sem.run_pure]
                      rw [m1]
                      rfl
                    refine ⟨ρ2, .bool (jumpOf e).isNone, _, .bool _, m4, q3.trans (l5.trans (u3.trans m5)), ?_⟩
                    rw [hfr]
                    refine Steps.trans q5 (.head (stepR_beginRound rfl hbr) ?_)
                    cases e with
                    | normal => exact Steps.trans u5 (.one (stepR_round_end rfl rfl her))
                    | ret => obtain ⟨k0, u6⟩ := u5; exact u6.trans (.one (stepR_round_ret rfl rfl her))
                    | exit id => obtain ⟨k0, hx, u6⟩ := u5; exact u6.trans (.one (stepR_round_exit rfl rfl (by rw [hx]; rfl) her))
                · simp at hc
              · simp at hc
            · simp at hc
          · simp at hc
        · simp at hc
      · simp at hc

/-- **WHAT THE EXECUTOR ANSWERS, THE CALL RETURNS.** -/
theorem calls_of {W0 : World} (hmix : P.follows .mixedOrders = true) (hP : progOK P = true) {X : Ext} (hX : ExtOK P W0 X) {n : Nat} {f : FuncId} {args : List Value} {h h' : AHeap} {v : Value}
    (hc : acall P X n (.fn f) args h = some (v, h')) {ρ : Rho} {w : World} {args' : Array Value} (H : HRel P.globals.size ρ h w) (K : Kept P.globals.size W0 w) (ha : LRel ρ args args'.toList) :
    Calls P f args' w fun e w' => ∃ (ρ' : Rho) (v' : Value), e = .returned v' ∧ VRel ρ' v v' ∧ HRel P.globals.size ρ' h' w' ∧ Fr ρ h w ρ' h' w' := by
  obtain ⟨_, h2⟩ := acall_sound hmix hP hX n (.fn f) args h v h' hc ρ w args' H K ha
  intro cs
  obtain ⟨ρ', v', w', fr, r1, r2, r3, r4, r5, r6⟩ := h2 cs
  exact ⟨.returned v', w', fr, ⟨ρ', v', rfl, r1, r2, r3⟩, r4, r5, r6⟩
end Go.AM
