/-
  THE ABSTRACT EXECUTOR: operations that look at nothing but their operands are what the model computes.
-/
import Derived.Test.YtknpjlcgjlnfbaaGreatDoorAm2
import Derived.WideLaws
import Derived.Laws.Strings
set_option linter.unusedSimpArgs false
set_option linter.unusedVariables false
namespace Go.AM
variable {P : Program} {ρ : Rho}

theorem ti_all {t : TypeId} {x : TI} (h : ti P t = some x) : (P.underlying t = some x.d ∧ ∃ i, P.info? t = some i ∧ i.size = x.size ∧ i.bytes = x.bytes ∧ i.zero = some x.zero) ∧ constOK x.zero = true ∧ x.zero.cells.size = x.size := by
  unfold ti at h
  split at h
  · rename_i d i hu hi
    split at h
    · rename_i z hz
      split at h
      · rename_i hc
        simp only [Option.some.injEq] at h
        subst h
        simp only [Bool.and_eq_true, beq_iff_eq] at hc
        exact ⟨⟨hu, i, hi, rfl, rfl, hz⟩, hc.1, hc.2⟩
      · simp at h
    · simp at h
  · simp at h
theorem ti_spec {t : TypeId} {x : TI} (h : ti P t = some x) : P.underlying t = some x.d ∧ ∃ i, P.info? t = some i ∧ i.size = x.size ∧ i.bytes = x.bytes ∧ i.zero = some x.zero := (ti_all h).1
theorem ti_zero {t : TypeId} {x : TI} (h : ti P t = some x) : constOK x.zero = true := (ti_all h).2.1
theorem ti_size {t : TypeId} {x : TI} (h : ti P t = some x) : x.zero.cells.size = x.size := (ti_all h).2.2

theorem run_und {t : TypeId} {d : TypeDesc} (h : P.underlying t = some d) (w : World) : (Go.underlying t).run P w = .ok d w := by
  simp [Go.underlying, h]
theorem run_tu {t : TypeId} {x : TI} (h : ti P t = some x) (w : World) : (Go.underlying t).run P w = .ok x.d w := run_und (ti_spec h).1 w
theorem run_size {t : TypeId} {x : TI} (h : ti P t = some x) (w : World) : (Go.sizeOf t).run P w = .ok x.size w := by
  obtain ⟨_, i, hi, hs, _, _⟩ := ti_spec h
  simp [Go.sizeOf, typeInfo, hi, hs]
theorem run_zero {t : TypeId} {x : TI} (h : ti P t = some x) (w : World) : (zeroValue t).run P w = .ok x.zero w := by
  obtain ⟨_, i, hi, _, _, hz⟩ := ti_spec h
  simp [zeroValue, typeInfo, hi, hz]
theorem run_bytes {t : TypeId} {x : TI} (h : ti P t = some x) (w : World) : ∃ i, (typeInfo t).run P w = .ok i w ∧ i.bytes = x.bytes ∧ i.size = x.size := by
  obtain ⟨_, i, hi, hs, hb, _⟩ := ti_spec h
  exact ⟨i, by simp [typeInfo, hi], hb, hs⟩
theorem run_isAgg {t : TypeId} {x : TI} (h : ti P t = some x) (w : World) : (Go.isAgg t).run P w = .ok x.isAgg w := by
  simp only [Go.isAgg, Sem.run_bind, run_tu h, Result.andThen_ok, TI.isAgg]
  cases x.d <;> rfl

/-- A Sem whose run is the same in every world. -/
def Still (P : Program) {α : Type} (s : Sem α) (a : α) : Prop := ∀ w, s.run P w = .ok a w

theorem acmp_sound {op : BinOp} {a b : Int} {v : Value} (h : acmp op a b = some v) : Still P (Op.intCmp op a b) v ∧ VRel ρ v v := by
  unfold acmp at h
  unfold Op.intCmp
  split at h <;> simp only [Option.some.injEq, reduceCtorEq] at h <;> subst h <;> exact ⟨fun w => rfl, .bool _⟩

theorem aint_sound {op : BinOp} {k : IntKind} {a b : Int} {v : Value} {t : TypeId} (hl : op ≠ .shl) (hr : op ≠ .shr) (h : aint op k a b = some v) :
    Still P (Go.binOp op t (.int k a) (.int k b)) v ∧ VRel ρ v v := by
  unfold aint at h
  cases op <;> simp only [] at h <;>
    first
    | (obtain ⟨h1, h2⟩ := acmp_sound (P := P) (ρ := ρ) h
       refine ⟨fun w => ?_, h2⟩
       simp only [Go.binOp, ne_eq, not_true_eq_false, if_false]
       exact h1 w)
    | (simp only [Option.some.injEq] at h; subst h
       exact ⟨fun w => by simp [Go.binOp, Op.intArith, Op.intBits], .int _ _⟩)
    | (split at h
       · simp at h
       · rename_i hb
         simp only [Option.some.injEq] at h; subst h
         exact ⟨fun w => by simp [Go.binOp, Op.intDiv, hb], .int _ _⟩)
    | (exact absurd rfl hl)
    | (exact absurd rfl hr)

theorem astr_sound {op : BinOp} {a b : ByteArray} {v : Value} {t : TypeId} (h : astr op a b = some v) :
    Still P (Go.binOp op t (.string a) (.string b)) v ∧ VRel ρ v v := by
  unfold astr at h
  cases op <;> simp only [] at h <;>
    first
    | (simp at h; done)
    | (simp only [Option.some.injEq] at h; subst h
       exact ⟨fun w => by simp [Go.binOp, Op.stringOp, ByteArray.toList_eq], .bool _⟩)
    | (split at h
       · rename_i hs
         simp only [Option.some.injEq] at h; subst h
         refine ⟨fun w => ?_, .string _⟩
         have hm : IntKind.i64.max = 9223372036854775807 := rfl
         have hn : ¬ (((a.size + b.size : Nat) : Int) > IntKind.i64.max) := by rw [hm]; omega
         simp only [Go.binOp, Op.stringOp, if_neg hn, Sem.run_pure]
       · simp at h)

theorem eqGuard_other {op : BinOp} {t : TypeId} {x y : Operand} {a b : Value} (h : ∀ c d, ¬(a = .agg c ∧ b = .agg d)) (h' : ¬(a = .nilIface ∧ b = .nilIface)) :
    Still P (eqGuard op t x y a b) () := by
  intro w
  unfold eqGuard
  cases op <;> simp <;> (cases a <;> cases b <;> simp_all)


/-! ### '==' of structs and arrays, cell by cell -/
def packA (P : Program) (t : TypeId) (xs : List Value) : Value :=
  match ti P t with
  | some i => if i.isAgg then .agg xs.toArray else xs.getD 0 undef
  | none => undef

theorem part_run {t : TypeId} {i : TI} (hi : ti P t = some i) (xs : Array Value) (off s : Nat) (hs : i.size = s) (ha : i.isAgg = false → s = 1) (hl : off + s ≤ xs.size) (w : World) :
    (part t xs off).run P w = .ok (packA P t ((xs.toList.drop off).take s)) w := by
  simp only [part, Sem.run_bind, run_isAgg hi, Result.andThen_ok, packA, hi]
  cases hagg : i.isAgg with
  | true =>
    simp only [if_true, Sem.run_bind, run_size hi, Result.andThen_ok, Sem.run_pure]
    congr 2
    apply Array.toList_inj.1
    rw [Array.toList_extract, hs]
    simp [List.extract, List.take_drop]
  | false =>
    have h1 := ha hagg
    subst h1
    rw [if_neg (by simp), if_neg (by simp)]
    have : xs[off]? = some xs[off] := by simp
    rw [this]
    simp only [Sem.run_pure]
    congr 1
    rw [List.getD_eq_getElem?_getD, List.getElem?_take, if_pos (by omega), List.getElem?_drop, Nat.add_zero, Array.getElem?_toList, this]
    rfl

theorem forIn_all {α : Type} {w : World} {body : α → Option Bool × Unit → Sem (ForInStep (Option Bool × Unit))} {r : α → Bool} : ∀ {l : List α},
    (∀ x ∈ l, (body x (none, ())).run P w = .ok (if r x then .yield (none, ()) else .done (some false, ())) w) →
    (forIn l (none, ()) body).run P w = .ok (if l.all r then (none, ()) else (some false, ())) w := by
  intro l
  induction l with
  | nil => intro _; rfl
  | cons x l ih =>
    intro h
    rw [List.forIn_cons, Sem.run_bind, h x (by simp)]
    simp only [Result.andThen_ok, List.all_cons]
    by_cases hr : r x = true
    · simp only [hr, if_true, Bool.true_and]; exact ih (fun y hy => h y (by simp [hy]))
    · simp [hr]

theorem acellsEq_len : ∀ {ks : List CK} {a c : List Value} {x : Bool}, acellsEq ks a c = some x → a.length = ks.length ∧ c.length = ks.length := by
  intro ks
  induction ks with
  | nil => intro a c x h; cases a <;> cases c <;> simp_all [acellsEq]
  | cons k ks ih =>
    intro a c x h
    cases a <;> cases c <;> simp only [acellsEq, reduceCtorEq] at h
    split at h
    · rename_i p q hp hq; simp [ih hq]
    · simp at h
theorem acellsEq_split : ∀ {ks : List CK} {a c : List Value} {x : Bool} (n : Nat), acellsEq ks a c = some x →
    ∃ p q, acellsEq (ks.take n) (a.take n) (c.take n) = some p ∧ acellsEq (ks.drop n) (a.drop n) (c.drop n) = some q ∧ x = (p && q) := by
  intro ks
  induction ks with
  | nil =>
    intro a c x n h
    cases a <;> cases c <;> simp only [acellsEq, reduceCtorEq] at h
    simp only [Option.some.injEq] at h; subst h; exact ⟨true, true, by simp [acellsEq], by simp [acellsEq], rfl⟩
  | cons k ks ih =>
    intro a c x n h
    cases a with
    | nil => simp [acellsEq] at h
    | cons v a => cases c with
      | nil => simp [acellsEq] at h
      | cons u c =>
        cases n with
        | zero => exact ⟨true, x, by simp [acellsEq], by simpa using h, by simp⟩
        | succ n =>
          simp only [acellsEq] at h
          split at h
          · rename_i p q hp hq
            simp only [Option.some.injEq] at h; subst h
            obtain ⟨p', q', h1, h2, h3⟩ := ih n hq
            exact ⟨p && p', q', by simp [acellsEq, hp, h1], by simpa using h2, by rw [h3, Bool.and_assoc]⟩
          · simp at h

theorem flatFs_eq {sz : TypeId → Option (List CK)} {xs ys : List Value} : ∀ {fs : List Field} {acc : Nat} {r : List CK} {b : Bool}, flatFs sz fs acc = some r → acellsEq r (xs.drop acc) (ys.drop acc) = some b →
    b = (fs.all fun f => (acellsEq ((sz f.type).getD []) ((xs.drop f.offset).take ((sz f.type).getD []).length) ((ys.drop f.offset).take ((sz f.type).getD []).length)).getD false) ∧
    ∀ f ∈ fs, f.name ≠ "_" ∧ ∃ k p, sz f.type = some k ∧ acellsEq k ((xs.drop f.offset).take k.length) ((ys.drop f.offset).take k.length) = some p := by
  intro fs
  induction fs with
  | nil =>
    intro acc r b h hb
    simp only [flatFs, Option.some.injEq] at h; subst h
    have hl := acellsEq_len hb
    have h1 : xs.drop acc = [] := List.eq_nil_of_length_eq_zero hl.1
    have h2 : ys.drop acc = [] := List.eq_nil_of_length_eq_zero hl.2
    rw [h1, h2] at hb
    simp only [acellsEq, Option.some.injEq] at hb
    subst hb; exact ⟨rfl, by simp⟩
  | cons f fs ih =>
    intro acc r b h hb
    simp only [flatFs] at h
    split at h
    · simp at h
    · rename_i hn
      split at h
      · simp at h
      · rename_i ho
        split at h
        · rename_i k hk
          split at h
          · rename_i r' hr'
            simp only [Option.some.injEq] at h; subst h
            obtain ⟨p, q, h1, h2, h3⟩ := acellsEq_split k.length hb
            rw [List.take_left] at h1
            rw [List.drop_left, List.drop_drop, List.drop_drop] at h2
            obtain ⟨h4, h5⟩ := ih hr' h2
            have ho' : f.offset = acc := by omega
            refine ⟨?_, fun g hg => ?_⟩
            · rw [List.all_cons, ← h4, hk, ho']
              simp only [Option.getD_some, h1, h3]
            · rcases List.mem_cons.1 hg with rfl | hg
              · exact ⟨hn, k, p, hk, by rw [ho']; exact h1⟩
              · exact h5 g hg
          · simp at h
        · simp at h

theorem range_eq {xs ys : List Value} {k : List CK} : ∀ (m j : Nat) {b : Bool}, acellsEq (List.replicate m k).flatten (xs.drop (j * k.length)) (ys.drop (j * k.length)) = some b →
    (b = (List.range' j m).all fun i => (acellsEq k ((xs.drop (i * k.length)).take k.length) ((ys.drop (i * k.length)).take k.length)).getD false) ∧
    ∀ i ∈ List.range' j m, ∃ p, acellsEq k ((xs.drop (i * k.length)).take k.length) ((ys.drop (i * k.length)).take k.length) = some p := by
  intro m
  induction m with
  | zero =>
    intro j b hb
    have hl := acellsEq_len hb
    have h1 : xs.drop (j * k.length) = [] := List.eq_nil_of_length_eq_zero (by simpa using hl.1)
    have h2 : ys.drop (j * k.length) = [] := List.eq_nil_of_length_eq_zero (by simpa using hl.2)
    rw [h1, h2] at hb
    simp only [List.replicate_zero, List.flatten_nil, acellsEq, Option.some.injEq] at hb
    subst hb; exact ⟨rfl, by simp⟩
  | succ m ih =>
    intro j b hb
    rw [List.replicate_succ, List.flatten_cons] at hb
    obtain ⟨p, q, h1, h2, h3⟩ := acellsEq_split k.length hb
    rw [List.take_left] at h1
    rw [List.drop_left, List.drop_drop, List.drop_drop, show j * k.length + k.length = (j + 1) * k.length from (Nat.succ_mul j k.length).symm] at h2
    obtain ⟨h4, h5⟩ := ih (j + 1) h2
    refine ⟨?_, fun i hi => ?_⟩
    · rw [List.range'_succ, List.all_cons, ← h4]
      simp only [Option.getD_some, h1, h3]
    · rw [List.range'_succ] at hi
      rcases List.mem_cons.1 hi with rfl | hi
      · exact ⟨p, h1⟩
      · exact h5 i hi

theorem take_fit {xs : List Value} {o n : Nat} (h : ((xs.drop o).take n).length = n) : n = 0 ∨ o + n ≤ xs.length := by
  simp at h; omega

theorem part_run' {t : TypeId} {i : TI} (hi : ti P t = some i) (xs : List Value) (off s : Nat) (hs : i.size = s) (ha : i.isAgg = false → s = 1) (hl : ((xs.drop off).take s).length = s) (w : World) :
    (part t xs.toArray off).run P w = .ok (packA P t ((xs.drop off).take s)) w := by
  rcases take_fit hl with h0 | h
  · subst h0
    simp only [part, Sem.run_bind, run_isAgg hi, Result.andThen_ok, packA, hi]
    cases hagg : i.isAgg with
    | true =>
      simp only [if_true, Sem.run_bind, run_size hi, Result.andThen_ok, Sem.run_pure, hs]
      congr 2
      apply Array.toList_inj.1
      simp
    | false => have := ha hagg; omega
  · exact part_run hi xs.toArray off s hs ha (by simpa using h) w

theorem equal_flat : ∀ (n : Nat) (t : TypeId) (s : List CK), flatT P n t = some s → (∃ i, ti P t = some i ∧ i.size = s.length ∧ (i.isAgg = false → s.length = 1)) ∧ ∀ (xs ys : List Value), ∀ b, acellsEq s xs ys = some b → ∀ d, n ≤ d → ∀ w,
    (Op.equalIn d t (packA P t xs) (packA P t ys)).run P w = .ok b w := by
  intro n
  induction n with
  | zero => intro t s h; simp [flatT] at h
  | succ n ih =>
    intro t s h
    have scalar : ∀ {i : TI} {c : CK}, ti P t = some i → i.isAgg = false → s = [c] → (∀ x y b, acellEq c x y = some b → ∀ d w, (Op.equalIn (d + 1) t x y).run P w = .ok b w) → i.size = 1 →
        (∃ i, ti P t = some i ∧ i.size = s.length ∧ (i.isAgg = false → s.length = 1)) ∧ ∀ (xs ys : List Value), ∀ b, acellsEq s xs ys = some b → ∀ d, n + 1 ≤ d → ∀ w, (Op.equalIn d t (packA P t xs) (packA P t ys)).run P w = .ok b w := by
      intro i c hi ha hs1 hq hsz
      subst hs1
      refine ⟨⟨i, hi, hsz, fun _ => rfl⟩, fun xs ys b hb d hd w => ?_⟩
      have hl := acellsEq_len hb
      match xs, ys, hl with
      | [x], [y], _ =>
        simp only [acellsEq] at hb
        split at hb
        · rename_i p q hp hq2
          simp only [Option.some.injEq] at hb hq2; subst hb hq2
          obtain ⟨d, rfl⟩ : ∃ k, d = k + 1 := ⟨d - 1, by omega⟩
          simp only [packA, hi, ha, Bool.false_eq_true, if_false, List.getD_cons_zero, Bool.and_true]
          exact hq x y p hp d w
        · simp at hb
    simp only [flatT] at h
    split at h
    · rename_i i hi
      have hu := (ti_spec hi).1
      split at h
      · rename_i hd
        split at h
        · rename_i hsz
          simp only [Option.some.injEq] at h; subst h
          rw [hd] at hu
          refine scalar hi (by simp [TI.isAgg, hd]) rfl (fun x y b hb d w => ?_) hsz
          unfold acellEq at hb
          split at hb <;> (try (simp_all; done))
          simp only [Option.some.injEq] at hb; subst hb
          rw [Op.equalIn]; simp [run_und hu]
        · simp at h
      · rename_i q hd
        split at h
        · rename_i hsz
          simp only [Option.some.injEq] at h; subst h
          rw [hd] at hu
          refine scalar hi (by simp [TI.isAgg, hd]) rfl (fun x y b hb d w => ?_) hsz
          unfold acellEq at hb
          split at hb <;> (try (simp_all; done))
          split at hb <;> (try (simp_all; done))
          rename_i hk
          simp only [Option.some.injEq] at hb; subst hb
          rw [Op.equalIn]; simp [run_und hu, hk]
        · simp at h
      · rename_i hd
        split at h
        · rename_i hsz
          simp only [Option.some.injEq] at h; subst h
          rw [hd] at hu
          refine scalar hi (by simp [TI.isAgg, hd]) rfl (fun x y b hb d w => ?_) hsz
          unfold acellEq at hb
          split at hb <;> (try (simp_all; done))
          simp only [Option.some.injEq] at hb; subst hb
          rw [Op.equalIn]; simp [run_und hu]
        · simp at h
      · -- a struct
        rename_i fs hd
        rw [hd] at hu
        split at h
        · simp at h
        · rename_i hst
          split at h
          · rename_i s' hfs
            split at h
            · rename_i hsz
              simp only [Option.some.injEq] at h; subst h
              have hagg : i.isAgg = true := by simp [TI.isAgg, hd]
              refine ⟨⟨i, hi, hsz, by simp [hagg]⟩, fun xs ys b hb d hdd w => ?_⟩
              obtain ⟨d, rfl⟩ : ∃ k, d = k + 1 := ⟨d - 1, by omega⟩
              obtain ⟨hbe, hall⟩ := flatFs_eq (xs := xs) (ys := ys) hfs (by simpa using hb)
              simp only [packA, hi, hagg, if_true]
              rw [Op.equalIn]
              simp only [Sem.run_bind, run_und hu, Result.andThen_ok]
              simp only [run_program, Result.andThen_ok, hst, Bool.false_eq_true, if_false, Sem.run_bind, Sem.run_pure]
              rw [← Array.forIn_toList]
              rw [forIn_all (r := fun f => (acellsEq ((flatT P n f.type).getD []) ((xs.drop f.offset).take ((flatT P n f.type).getD []).length) ((ys.drop f.offset).take ((flatT P n f.type).getD []).length)).getD false)]
              · rw [← hbe]; cases b <;> rfl
              · intro f hf
                obtain ⟨hn, k, p, hk, hp⟩ := hall f hf
                obtain ⟨⟨j, hj, hjs, hja⟩, heq⟩ := ih f.type k hk
                have hpl := acellsEq_len hp
                have h1 := part_run' hj xs f.offset k.length hjs hja hpl.1 w
                have h2 := part_run' hj ys f.offset k.length hjs hja hpl.2 w
                have h3 := heq _ _ p hp d (by omega) w
                simp only [ne_eq, hn, not_false_eq_true, if_true, Sem.run_bind, h1, h2, h3, Result.andThen_ok, hk, Option.getD_some, hp]
                cases p <;> simp
            · simp at h
          · simp at h
      · -- an array
        rename_i m e hd
        rw [hd] at hu
        split at h
        · rename_i k hk
          split at h
          · rename_i hsz
            simp only [Option.some.injEq] at h; subst h
            have hagg : i.isAgg = true := by simp [TI.isAgg, hd]
            refine ⟨⟨i, hi, by rw [hsz]; simp [List.length_flatten, List.map_replicate], by simp [hagg]⟩, fun xs ys b hb d hdd w => ?_⟩
            obtain ⟨d, rfl⟩ : ∃ k, d = k + 1 := ⟨d - 1, by omega⟩
            obtain ⟨⟨j, hj, hjs, hja⟩, heq⟩ := ih e k hk
            obtain ⟨hbe, hall⟩ := range_eq (xs := xs) (ys := ys) (k := k) m 0 (by simpa using hb)
            simp only [packA, hi, hagg, if_true]
            rw [Op.equalIn]
            simp only [Sem.run_bind, run_und hu, Result.andThen_ok, run_size hj, hjs]
            rw [Std.Legacy.Range.forIn_eq_forIn_range']
            rw [forIn_all (r := fun i => (acellsEq k ((xs.drop (i * k.length)).take k.length) ((ys.drop (i * k.length)).take k.length)).getD false)]
            · simp only [Std.Legacy.Range.size, Nat.sub_zero, Nat.add_sub_cancel, Nat.div_one]
              rw [← hbe]; cases b <;> rfl
            · intro q hq
              obtain ⟨p, hp⟩ := hall q (by simpa [Std.Legacy.Range.size] using hq)
              have hpl := acellsEq_len hp
              have h1 := part_run' hj xs (q * k.length) k.length hjs hja hpl.1 w
              have h2 := part_run' hj ys (q * k.length) k.length hjs hja hpl.2 w
              have h3 := heq _ _ p hp d (by omega) w
              simp only [Sem.run_bind, h1, h2, h3, Result.andThen_ok, hp, Option.getD_some]
              cases p <;> simp
          · simp at h
        · simp at h
      · simp at h
    · simp at h

theorem acellEq_rel {c : CK} {x y x' y' : Value} {b : Bool} (hx : VRel ρ x x') (hy : VRel ρ y y') (h : acellEq c x y = some b) : acellEq c x' y' = some b := by
  unfold acellEq at h
  split at h <;> (try (simp at h; done)) <;> cases hx <;> cases hy <;> exact h
theorem acellsEq_rel {ks : List CK} {xs ys xs' ys' : List Value} (hx : LRel ρ xs xs') (hy : LRel ρ ys ys') {b : Bool} (h : acellsEq ks xs ys = some b) : acellsEq ks xs' ys' = some b := by
  induction ks generalizing xs ys xs' ys' b with
  | nil => cases hx <;> cases hy <;> simp_all [acellsEq]
  | cons c ks ih =>
    cases hx <;> cases hy <;> simp only [acellsEq, reduceCtorEq] at h ⊢
    rename_i h1 h2 _ _ _ _ h3 h4
    split at h
    · rename_i p q hp hq
      rw [acellEq_rel h1 h3 hp, ih h2 h4 hq]
      exact h
    · simp at h

theorem aeq_sound {t : TypeId} {x y x' y' : Value} {b : Bool} (hx : VRel ρ x x') (hy : VRel ρ y y') (h : aeq P t x y = some b) :
    Still P (Op.equal t x' y') b ∧ ∀ o ox oy, Still P (eqGuard o t ox oy x' y') () := by
  by_cases hagg : ∃ xs ys, x = .agg xs ∧ y = .agg ys
  · obtain ⟨xs, ys, rfl, rfl⟩ := hagg
    simp only [aeq] at h
    split at h
    · rename_i ks i0 hks hi0
      unfold flat at hks
      split at hks
      · simp at hks
      · rename_i hg
        by_cases hagg0 : i0.isAgg = true
        · rw [if_pos hagg0] at h
          have hxr := acellsEq_rel hx.cells hy.cells h
          cases hx with
          | agg hx1 hx2 =>
          cases hy with
          | agg hy1 hy2 =>
          rename_i x' y'
          obtain ⟨⟨i, hi, his, hia⟩, heq⟩ := equal_flat 8 t ks hks
          have hagg : i.isAgg = true := by rw [hi] at hi0; simp only [Option.some.injEq] at hi0; rw [hi0]; exact hagg0
          have h1 := fun w => heq _ _ b hxr Op.maxDepth (by decide) w
          simp only [packA, hi, hagg, if_true] at h1
          refine ⟨fun w => by simpa [Op.equal, Value.cells] using h1 w, fun o ox oy w => ?_⟩
          unfold eqGuard
          cases o <;> simp [hg]
        · rw [if_neg hagg0] at h; simp at h
    · simp at h
  suffices Still P (Op.equal t x' y') b ∧ (∀ c d, ¬(x' = .agg c ∧ y' = .agg d)) ∧ ¬(x' = .nilIface ∧ y' = .nilIface) from ⟨this.1, fun o ox oy => eqGuard_other this.2.1 this.2.2⟩
  unfold aeq at h
  split at h <;> (try (simp at hagg; done)) <;> (try (simp at h; done)) <;> (split at h <;> (try (simp at h; done))) <;> rename_i hu <;> simp only [Option.some.injEq] at h <;> subst h <;> cases hx <;> cases hy <;>
    (refine ⟨fun w => ?_, by simp, by simp⟩) <;> (unfold Op.equal; rw [show Op.maxDepth = 9999 + 1 from rfl, Op.equalIn]; simp [run_und hu])

theorem abin_sound {o : BinOp} {t : TypeId} {x y x' y' v : Value} {ox oy : Operand} (hx : VRel ρ x x') (hy : VRel ρ y y') (h : abin P o t x y = some v) :
    ∃ v', Still P (do eqGuard o t ox oy x' y'; Go.binOp o t x' y' : Sem Value) v' ∧ VRel ρ v v' := by
  unfold abin at h
  split at h
  · -- two numbers
    rename_i k a k' b
    cases hx; cases hy
    have hg : Still P (eqGuard o t ox oy (.int k a) (.int k' b)) () := eqGuard_other (by simp) (by simp)
    split at h
    · split at h
      · simp at h
      · rename_i hb
        simp only [Option.some.injEq] at h; subst h
        exact ⟨_, fun w => by simp [hg w, Go.binOp, Op.shift, hb], .int _ _⟩
    · split at h
      · simp at h
      · rename_i hb
        simp only [Option.some.injEq] at h; subst h
        exact ⟨_, fun w => by simp [hg w, Go.binOp, Op.shift, hb], .int _ _⟩
    · rename_i hl hr
      split at h
      · rename_i hk
        subst hk
        obtain ⟨h1, h2⟩ := aint_sound (P := P) (ρ := ρ) (t := t) (fun e => hl e) (fun e => hr e) h
        exact ⟨v, fun w => by simp [hg w, h1 w], h2⟩
      · simp at h
  · -- two strings
    rename_i a b
    cases hx; cases hy
    have hg : Still P (eqGuard o t ox oy (.string a) (.string b)) () := eqGuard_other (by simp) (by simp)
    obtain ⟨h1, h2⟩ := astr_sound (P := P) (ρ := ρ) (t := t) h
    exact ⟨v, fun w => by simp [hg w, h1 w], h2⟩
  · rename_i hn1 hn2
    split at h
    · split at h
      · rename_i b hb
        simp only [Option.some.injEq] at h; subst h
        obtain ⟨h1, h2⟩ := aeq_sound hx hy hb
        refine ⟨.bool b, fun w => ?_, .bool _⟩
        have hg : Still P (eqGuard .eql t ox oy x' y') () := h2 _ _ _
        have hbin : (Go.binOp .eql t x' y').run P w = .ok (.bool b) w := by
          unfold aeq at hb
          split at hb <;> (try (simp at hb; done)) <;> cases hx <;> cases hy <;> simp [Go.binOp, h1 w]
        simp [hg w, hbin]
      · simp at h
    · split at h
      · rename_i b hb
        simp only [Option.some.injEq] at h; subst h
        obtain ⟨h1, h2⟩ := aeq_sound hx hy hb
        refine ⟨.bool (!b), fun w => ?_, .bool _⟩
        have hg : Still P (eqGuard .neq t ox oy x' y') () := h2 _ _ _
        have hbin : (Go.binOp .neq t x' y').run P w = .ok (.bool (!b)) w := by
          unfold aeq at hb
          split at hb <;> (try (simp at hb; done)) <;> cases hx <;> cases hy <;> simp [Go.binOp, h1 w]
        simp [hg w, hbin]
      · simp at h
    · simp at h
end Go.AM
