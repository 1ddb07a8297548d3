/-
  Contracts of the library's functions that the yard calls: what they answer, and that they do, by the library's proved summaries.
-/
import Derived.Test.YtknpjlcgjlnfbaaGreatDoorYBase
import Derived.Test.YtknpjlcgjlnfbaaGreatDoorLys
import Derived.Shelf.Strings.Search3
import Derived.Shelf.Strings.Split
import Derived.Shelf.Strings.OnBuilder
import Derived.Shelf.Strings.SlTrimAscii
import Derived.Shelf.Strconv.Itoa4
import Derived.Shelf.Strconv.AtoiAll
set_option linter.unusedSimpArgs false
set_option linter.unusedVariables false
set_option maxRecDepth 100000
namespace Go.Proofs.YtknpjlcgjlnfbaaGreatDoor
open Go Go.AM Go.Shelf Go.RowKit

/-! ### What they answer -/
/-- strings.Contains at one byte. -/
def contC : List Value → AHeap → Option (Value × AHeap)
  | [.string s, .string sub], h => match sub.data.toList with
    | [c] => if s.size < 4294967281 then some (.bool (hasB c s.data.toList), h) else none
    | _ => none
  | _, _ => none
/-- strings.Split at a blank. -/
def splitC : List Value → AHeap → Option (Value × AHeap)
  | [.string s, .string sep], h => match sep.data.toList with
    | [c] => if c = 32 ∧ s.size < 1000000 then some (.slice (some ⟨h.length, 0, some 1⟩) (spl s).length (spl s).length, h ++ [.row (strs (spl s)) true]) else none
    | _ => none
  | _, _ => none
def joinC : List Value → AHeap → Option (Value × AHeap)
  | [.slice (some ⟨b, o, some 1⟩) len _, .string sep], h =>
    match loadN h b o len with
    | some cs =>
      match strsOf cs with
      | some L => if (joinS L sep).size ≤ 1000000 ∧ len ≤ 1000000 then some (.string (joinS L sep), h) else none
      | none => none
    | none => none
  | _, _ => none
def trimC : List Value → AHeap → Option (Value × AHeap)
  | [.string s, .string cs], h => if cs.size < 1000 ∧ (cs.data.toList.all fun c => decide (c.toNat < 128)) = true ∧ s.size ≤ 1000000 then some (.string (trimF s cs), h) else none
  | _, _ => none
def inI64 (n : Int) : Bool := decide (-9223372036854775808 ≤ n) && decide (n ≤ 9223372036854775807)
def itoaC : List Value → AHeap → Option (Value × AHeap)
  | [.int .i64 n], h => if inI64 n = true then some (.string (gB (itoa n)), h) else none
  | _, _ => none
def fintC : List Value → AHeap → Option (Value × AHeap)
  | [.int .i64 n, .int .i64 b], h => if inI64 n = true ∧ b = 10 then some (.string (gB (itoa n)), h) else none
  | _, _ => none
def errV (h : AHeap) : Value := .iface 418 (.pointer (some ⟨h.length, 0, none⟩))
def atoiC : List Value → AHeap → Option (Value × AHeap)
  | [.string s], h => if s.size ≤ 1000000 then (match Lib.atoiAll s.data.toList with
    | .ok v => some (.tuple #[.int .i64 v, .nilIface], h)
    | .syntax => some (.tuple #[.int .i64 0, errV h], h ++ [.dead])
    | .range => some (.tuple #[.int .i64 (Lib.atoiSat s.data.toList), errV h], h ++ [.dead])) else none
  | _, _ => none

/-! ### That they do -/
theorem one_arg {ρ : Rho} {x : Value} {args' : Array Value} (ha : LRel ρ [x] args'.toList) : ∃ x', args' = #[x'] ∧ VRel ρ x x' := by
  obtain ⟨l⟩ := args'
  simp only at ha
  cases ha with
  | cons hv ht => cases ht; exact ⟨_, rfl, hv⟩
theorem two_args {ρ : Rho} {x y : Value} {args' : Array Value} (ha : LRel ρ [x, y] args'.toList) : ∃ x' y', args' = #[x', y'] ∧ VRel ρ x x' ∧ VRel ρ y y' := by
  obtain ⟨l⟩ := args'
  simp only at ha
  cases ha with
  | cons hv ht => cases ht with
    | cons hv2 ht2 => cases ht2; exact ⟨_, _, rfl, hv, hv2⟩
noncomputable abbrev GN : Nat := Tryz.prog.globals.size
theorem fnok_below {ρ : Rho} {h : AHeap} {w : World} {f : FuncId} {args' : Array Value} {v v' : Value} (hin : (callFunc f args').run Tryz.prog w = .ok (.enter f args') w)
    (hcall : Calls Tryz.prog f args' w fun e w' => e = .returned v' ∧ Below w.heap.size w w') (H : HRel GN ρ h w) (hv : VRel ρ v v') : FnOK Tryz.prog GN ρ h w f args' v h := by
  refine ⟨hin, fun cs => ?_⟩
  obtain ⟨e, w', fr, ⟨rfl, hB⟩, hst, h1, h2⟩ := hcall cs
  obtain ⟨k1, k2⟩ := H.later hB.size hB.block hB.tape hB.os hB.output
  exact ⟨ρ, v', w', fr, hv, k1, k2, hst, h1, h2⟩
/-- An object of which nothing is told. -/
theorem HRel.deadAt {ρ : Rho} {h : AHeap} {w : World} (H : HRel GN ρ h w) {N : Nat} (hN : N < w.heap.size) :
    HRel GN (upd ρ h.length ⟨N, 0, 0⟩) (h ++ [.dead]) w ∧ Fr ρ h w (upd ρ h.length ⟨N, 0, 0⟩) (h ++ [.dead]) w := by
  have hle := H.updLe ⟨N, 0, 0⟩
  have hold : ∀ {i : Nat} {q : Pl}, i < h.length → upd ρ h.length ⟨N, 0, 0⟩ i = some q → ρ i = some q := by
    intro i q hi hq; rw [upd_ne _ (by omega)] at hq; exact hq
  refine ⟨⟨?_, ?_, ?_, ?_, ?_, ?_, ?_, H.gsz⟩, ⟨hle, Nat.le_refl _, rfl, rfl, rfl, ?_, ?_, fun _ _ _ => rfl⟩⟩
  · intro i o hi ho
    rcases get_append hi with ⟨hl, hi⟩ | ⟨rfl, rfl⟩
    · obtain ⟨q, hq⟩ := H.dom i o hi ho; exact ⟨q, hle _ _ hq⟩
    · simp [AObj.live] at ho
  · intro i o q hi hq
    rcases get_append hi with ⟨hl, hi⟩ | ⟨rfl, rfl⟩
    · exact (H.obj i o q hi (hold hl hq)).mono hle (fun _ => rfl)
    · trivial
  · intro i q hq
    by_cases e : i = h.length
    · subst e; rw [upd_same] at hq; simp only [Option.some.injEq] at hq; subst hq; exact hN
    · rw [upd_ne _ e] at hq; exact H.lt i q hq
  · intro i q hq
    by_cases e : i = h.length
    · subst e; simp
    · rw [upd_ne _ e] at hq; have := H.bd i q hq; simp; omega
  · intro i j o o' q q' hne hi hj hq hq' ho ho'
    rcases get_append hi with ⟨hl, hi⟩ | ⟨rfl, rfl⟩
    · rcases get_append hj with ⟨hl', hj⟩ | ⟨rfl, rfl⟩
      · exact H.sep i j o o' q q' hne hi hj (hold hl hq) (hold hl' hq') ho ho'
      · simp [AObj.live] at ho'
    · simp [AObj.own] at ho
  · intro g hg; obtain ⟨en, he⟩ := H.glob g hg; exact ⟨en, hle _ _ he⟩
  · intro i o q hi hq ho
    rcases get_append hi with ⟨hl, hi⟩ | ⟨rfl, rfl⟩
    · exact H.gown i o q hi (hold hl hq) ho
    · simp [AObj.own] at ho
  · intro i o q hi ho hq _
    rcases get_append hi with ⟨hl, hi⟩ | ⟨rfl, rfl⟩
    · exact ⟨i, o, q, hi, ho, hold hl hq, rfl⟩
    · simp [AObj.own] at ho
  · intro i o q hi ho hq _
    rcases get_append hi with ⟨hl, hi⟩ | ⟨rfl, rfl⟩
    · exact ⟨i, o, q, hi, ho, hold hl hq, rfl⟩
    · simp [AObj.live] at ho

/-- What was there at the start still reads so. -/
theorem YW.at {W w : World} (Y : YW W) (K : Kept GN W w) : YW w := by
  have c : ∀ g i, g < 12 → w.cell? ⟨g, i, none⟩ = W.cell? ⟨g, i, none⟩ := by
    intro g i hg
    have := K g (by unfold GN; rw [globals12]; exact hg)
    simp only [World.cell?, this]
  refine ⟨?_, ?_, ?_, ?_, ?_, ?_⟩
  · obtain ⟨m, hm⟩ := Y.maxl; exact ⟨m, (c _ _ (by omega)).trans hm⟩
  · have h := Y.tab
    unfold Lib.TabIs World.var? at h ⊢
    rw [show Tryz.prog.globalNamed "internal/strconv.uint64pow10" = some 7 by kernel_rfl, Option.bind_some] at h ⊢
    rw [K 7 (by unfold GN; rw [globals12]; omega)]
    exact h
  · obtain ⟨a, b, hm⟩ := Y.synt; exact ⟨a, b, (c _ _ (by omega)).trans hm⟩
  · obtain ⟨a, b, hm⟩ := Y.rng; exact ⟨a, b, (c _ _ (by omega)).trans hm⟩
  · exact (c _ _ (by omega)).trans Y.etyp
  · have h1 := Y.etyp
    have h0 := Y.size
    by_cases hlt : 11 < w.heap.size
    · omega
    · exfalso
      have e := K 11 (by unfold GN; rw [globals12]; omega)
      rw [Array.getElem?_eq_none (by omega)] at e
      have := Array.getElem?_eq_none_iff.1 e.symm
      omega

section
variable {ρ : Rho} {h h' : AHeap} {w : World} {args : List Value} {args' : Array Value} {v : Value}
theorem cont_fnok (Y : YW w) (hr : contC args h = some (v, h')) (H : HRel GN ρ h w) (ha : LRel ρ args args'.toList) : FnOK Tryz.prog GN ρ h w 60 args' v h' := by
  unfold contC at hr
  split at hr
  · rename_i s sub
    split at hr
    · rename_i c hc
      split at hr
      · rename_i hs
        simp only [Option.some.injEq, Prod.mk.injEq] at hr
        obtain ⟨rfl, rfl⟩ := hr
        obtain ⟨x', y', rfl, hx, hy⟩ := two_args ha
        cases hx; cases hy
        obtain ⟨m, hm⟩ := Y.maxl
        have hcall := Any.strings_Contains (ρ := contRen) contLays s sub m w hs hm
        rw [hc, hasB_lib] at hcall
        exact fnok_below (by kernel_rfl) (hcall.mono fun e w' ⟨q1, q2⟩ => ⟨q1, q2 ▸ Below.refl _ _⟩) H (.bool _)
      · simp at hr
    · simp at hr
  · simp at hr
theorem trim_fnok (hr : trimC args h = some (v, h')) (H : HRel GN ρ h w) (ha : LRel ρ args args'.toList) : FnOK Tryz.prog GN ρ h w 195 args' v h' := by
  unfold trimC at hr
  split at hr
  · rename_i s cs
    split at hr
    · rename_i hc
      obtain ⟨h1, h2, h3⟩ := hc
      simp only [Option.some.injEq, Prod.mk.injEq] at hr
      obtain ⟨rfl, rfl⟩ := hr
      obtain ⟨x', y', rfl, hx, hy⟩ := two_args ha
      cases hx; cases hy
      have hascii : ∀ (j : Nat) b, cs.data.toList[j]? = some b → b.toNat < 128 := by
        intro j b hj
        have := List.all_eq_true.1 h2 b (List.mem_of_getElem? hj)
        simpa using this
      have hcall := Any.strings_Trim_laid (ρ := trimRen) trimLays (by kernel_rfl) s cs w (by omega) (by omega) hascii
      exact fnok_below (by kernel_rfl) hcall H (.string _)
    · simp at hr
  · simp at hr
theorem grow_below {w : World} (k : Nat) (os : Array Obj) : Below w.heap.size w (Sort.grow (w.drewN k) os) := by
  have e : (w.drewN k).heap = w.heap := by cases w; rfl
  refine ⟨by cases w; rfl, by cases w; rfl, by cases w; rfl, by simp [Sort.grow, e], fun i hi => ?_⟩
  simp only [Sort.grow, e]
  rw [Array.getElem?_append_left hi]
theorem itoa_fnok (Y : YW w) (hr : itoaC args h = some (v, h')) (H : HRel GN ρ h w) (ha : LRel ρ args args'.toList) : FnOK Tryz.prog GN ρ h w 172 args' v h' := by
  unfold itoaC at hr
  split at hr
  · rename_i n
    split at hr
    · rename_i hn
      unfold inI64 at hn
      simp only [Bool.and_eq_true, decide_eq_true_eq] at hn
      simp only [Option.some.injEq, Prod.mk.injEq] at hr
      obtain ⟨rfl, rfl⟩ := hr
      obtain ⟨x', rfl, hx⟩ := one_arg ha
      cases hx
      have hcall := Any.strconv_Itoa (ρ := itoaRen) itoaLays n hn.1 hn.2 w Y.tab
      rw [itoa_lib n hn.1 hn.2] at hcall
      refine fnok_below (by kernel_rfl) (hcall.mono fun e w' ⟨q1, k, os, q2⟩ => ⟨q1, ?_⟩) H (.string _)
      rw [q2]; exact grow_below k os
    · simp at hr
  · simp at hr
theorem fint_fnok (Y : YW w) (hr : fintC args h = some (v, h')) (H : HRel GN ρ h w) (ha : LRel ρ args args'.toList) : FnOK Tryz.prog GN ρ h w 116 args' v h' := by
  unfold fintC at hr
  split at hr
  · rename_i n b
    split at hr
    · rename_i hn
      obtain ⟨hn, rfl⟩ := hn
      unfold inI64 at hn
      simp only [Bool.and_eq_true, decide_eq_true_eq] at hn
      simp only [Option.some.injEq, Prod.mk.injEq] at hr
      obtain ⟨rfl, rfl⟩ := hr
      obtain ⟨x', y', rfl, hx, hy⟩ := two_args ha
      cases hx; cases hy
      have hcall := Any.strconv_FormatInt_10 (ρ := fintRen) fintLays n hn.1 hn.2 w Y.tab
      rw [itoa_lib n hn.1 hn.2] at hcall
      refine fnok_below (by kernel_rfl) (hcall.mono fun e w' ⟨q1, k, os, q2⟩ => ⟨q1, ?_⟩) H (.string _)
      rw [q2]; exact grow_below k os
    · simp at hr
  · simp at hr
theorem split_fnok (Y : YW w) (hr : splitC args h = some (v, h')) (H : HRel GN ρ h w) (ha : LRel ρ args args'.toList) : FnOK Tryz.prog GN ρ h w 119 args' v h' := by
  unfold splitC at hr
  split at hr
  · rename_i s sep
    split at hr
    · rename_i c hc
      split at hr
      · rename_i hs
        obtain ⟨rfl, hs⟩ := hs
        simp only [Option.some.injEq, Prod.mk.injEq] at hr
        obtain ⟨rfl, rfl⟩ := hr
        obtain ⟨x', y', rfl, hx, hy⟩ := two_args ha
        cases hx; cases hy
        obtain rfl : sep = ⟨#[32]⟩ := by rw [← gB_of sep, hc]; rfl
        obtain ⟨m, hm⟩ := Y.maxl
        have hcall := Any.strings_Split (ρ := splitRen) splitLays (by kernel_rfl) s ⟨#[32]⟩ m w (by omega) hm (by decide)
        have hlen := Lib.splitB_all ⟨#[32]⟩ (by decide) 0 _ s rfl
        rw [spl_lib] at hcall hlen
        rw [← hlen] at hcall
        refine ⟨by kernel_rfl, fun cs => ?_⟩
        obtain ⟨e, w', fr, ⟨rfl, rfl⟩, hst, h1, h2⟩ := hcall cs
        obtain ⟨k1, k2⟩ := H.alloc (oc := .cells ((spl s).map Value.string).toArray 9) (oa := .row (strs (spl s)) true) (sh := 0) (en := (spl s).length) (by
          refine ⟨_, _, _, heap_push_new _ _, ?_, fun i v hi => ?_, ?_, fun _ => ⟨?_, ?_⟩⟩
          · rw [strs_length]; simp
          · refine ⟨v, ?_, ?_⟩
            · simpa [strs] using hi
            · have : ∃ x, v = .string x := by
                simp only [strs, List.getElem?_map, Option.map_eq_some_iff] at hi
                obtain ⟨x, _, rfl⟩ := hi
                exact ⟨x, rfl⟩
              obtain ⟨x, rfl⟩ := this
              exact .string _
          · rw [strs_length]; simp
          · simp
          · intro o h1 h2 h3; simp at h3)
        refine ⟨_, _, _, fr, ?_, k1, k2, hst, h1, h2⟩
        exact .slice (p := ⟨w.heap.size, 0, (spl s).length⟩) (upd_same _ _ _) (Nat.le_refl _) (by simp) (fun _ => rfl)
      · simp at hr
    · simp at hr
  · simp at hr
theorem joinExtra : Builder.Extra Tryz.prog joinRen where
  sizeBuilder := by kernel_rfl
  liesBuilder := by kernel_rfl
  t5 := Tryz.underlying5
  a5 := Tryz.isAgg5
  z5 := Tryz.sizeOf5
  v5 := Tryz.zeroValue5
  infoByte := by kernel_rfl
  cellsByte := by kernel_rfl
  sizeByte := by kernel_rfl
  neB5 := by decide
theorem join_fnok (hr : joinC args h = some (v, h')) (H : HRel GN ρ h w) (ha : LRel ρ args args'.toList) : FnOK Tryz.prog GN ρ h w 117 args' v h' := by
  unfold joinC at hr
  split at hr
  · rename_i b o len k sep
    split at hr
    · rename_i cs hld
      split at hr
      · rename_i L hL
        split at hr
        · rename_i hc
          obtain ⟨hj, hlen⟩ := hc
          have hcs := strsOf_spec hL
          subst hcs
          simp only [Option.some.injEq, Prod.mk.injEq] at hr
          obtain ⟨rfl, rfl⟩ := hr
          obtain ⟨x', y', rfl, hx, hy⟩ := two_args ha
          cases hy
          unfold loadN at hld
          split at hld
          · rename_i cs hcs
            split at hld
            · rename_i hle
              simp only [Option.some.injEq] at hld
              have hLl : L.length = len := by
                have := congrArg List.length hld
                rw [strs_length] at this
                simp at this
                omega
              cases hx with
              | slice0 b o sz a k =>
                have hL0 : L = [] := List.eq_nil_of_length_eq_zero hLl
                subst hL0
                have hcall := Any.strings_Join_none (ρ := joinRen) joinLays joinExtra (some a) 0 sep w
                exact fnok_below (by kernel_rfl) (hcall.mono fun e w' ⟨q1, q2⟩ => ⟨q1, q2 ▸ Below.refl _ _⟩) H (.string _)
              | slice hp hle2 hcp hxx =>
                rename_i p cap
                obtain ⟨own, hrow⟩ : ∃ own, h[b]? = some (.row cs own) := by
                  unfold cells? at hcs
                  split at hcs
                  · rename_i cs' own hb
                    simp only [Option.some.injEq] at hcs
                    rw [← hcs]; exact ⟨own, hb⟩
                  · simp at hcs
                obtain ⟨c, t, fz, g1, g2, g3, g4, g5⟩ := H.obj b _ p hrow hp
                have hcells : ∀ (j : Nat) x, L[j]? = some x → w.cell? ⟨p.blk, (p.sh + o) + j, none⟩ = some (.string x) := by
                  intro j x hjx
                  have hjl : j < L.length := (List.getElem?_eq_some_iff.1 hjx).1
                  have e1 : (strs L)[j]? = some (.string x) := strs_get hjx
                  rw [← hld] at e1
                  rw [List.getElem?_take_of_lt (by omega), List.getElem?_drop] at e1
                  obtain ⟨v', e2, e3⟩ := g3 (o + j) _ e1
                  cases e3
                  simp only [World.cell?, g1]
                  rw [Nat.add_assoc]
                  simpa using e2
                have hjl : joinS L sep = gB (Lib.join (L.map fun s => s.data.toList) sep.data.toList) := by unfold joinS; rw [joinL_lib]
                have hcall := Any.strings_Join (ρ := joinRen) joinLays joinExtra p.blk (p.sh + o) cap L sep w hcells (H.lt b p hp) (by omega) (by omega) (by
                  rw [hjl, gB_size] at hj
                  show (Lib.join (L.map fun s => s.data.toList) sep.data.toList).length ≤ _
                  omega)
                rw [hLl] at hcall
                refine fnok_below (by kernel_rfl) hcall H ?_
                rw [hjl]; exact .string _
            · simp at hld
          · simp at hld
        · simp at hr
      · simp at hr
    · simp at hr
  · simp at hr
theorem atoi_fnok (Y : YW w) (hr : atoiC args h = some (v, h')) (H : HRel GN ρ h w) (ha : LRel ρ args args'.toList) : FnOK Tryz.prog GN ρ h w 171 args' v h' := by
  have bad : ∀ {s : ByteArray} {n : Int} {ev : Value}, (Calls Tryz.prog 171 #[.string s] w fun e w' => ∃ N, e = .returned (.tuple #[.int .i64 n, .iface 418 (.pointer (some ⟨N, 0, none⟩))]) ∧ w.heap.size ≤ N ∧ w'.heap[N]? = some (.cells #[.string ⟨#[65, 116, 111, 105]⟩, .string s, ev] 439 (0, 0)) ∧ Below w.heap.size w w') →
      FnOK Tryz.prog GN ρ h w 171 #[.string s] (.tuple #[.int .i64 n, errV h]) (h ++ [.dead]) := by
    intro s n ev hcall
    refine ⟨by kernel_rfl, fun cs => ?_⟩
    obtain ⟨e, w', fr, ⟨N, rfl, hN, hc, hB⟩, hst, h1, h2⟩ := hcall cs
    have hlt : N < w'.heap.size := by
      by_cases hl : N < w'.heap.size
      · exact hl
      · rw [Array.getElem?_eq_none (by omega)] at hc; simp at hc
    obtain ⟨k1, k2⟩ := H.later hB.size hB.block hB.tape hB.os hB.output
    obtain ⟨j1, j2⟩ := HRel.deadAt k1 hlt
    refine ⟨_, _, w', fr, ?_, j1, k2.trans j2, hst, h1, h2⟩
    refine (LRel.cons (.int _ _) (.cons (.iface 418 ?_) .nil)).tuple
    exact VRel.ptr (b := h.length) (o := 0) (p := ⟨N, 0, 0⟩) (upd_same _ _ _)
  unfold atoiC at hr
  split at hr
  · rename_i s
    split at hr
    · rename_i hs
      obtain ⟨x', rfl, hx⟩ := one_arg ha
      cases hx
      split at hr
      · rename_i n hn
        simp only [Option.some.injEq, Prod.mk.injEq] at hr
        obtain ⟨rfl, rfl⟩ := hr
        have hcall := Any.strconv_Atoi_ok (ρ := atoiRen) atoiLays s (by omega) n hn w
        refine fnok_below (by kernel_rfl) (hcall.mono fun e w' ⟨q1, q2⟩ => ⟨q1, ?_⟩) H (LRel.cons (.int _ _) (.cons .nilIface .nil)).tuple
        rcases q2 with rfl | ⟨t, rfl⟩
        · exact Below.refl _ _
        · exact Lib.bytesWorld_below _ _ _
      · rename_i hn
        simp only [Option.some.injEq, Prod.mk.injEq] at hr
        obtain ⟨rfl, rfl⟩ := hr
        obtain ⟨te, pe, hv⟩ := Y.synt
        exact bad (Any.strconv_Atoi_syntax (ρ := atoiRen) atoiLays s (by omega) hn (.iface te pe) w hv (Or.inr ⟨_, _, rfl⟩))
      · rename_i hn
        simp only [Option.some.injEq, Prod.mk.injEq] at hr
        obtain ⟨rfl, rfl⟩ := hr
        obtain ⟨te, pe, hv⟩ := Y.rng
        exact bad (Any.strconv_Atoi_range (ρ := atoiRen) atoiLays s (by omega) hn (.iface te pe) w hv (Or.inr ⟨_, _, rfl⟩))
    · simp at hr
  · simp at hr
end
end Go.Proofs.YtknpjlcgjlnfbaaGreatDoor
