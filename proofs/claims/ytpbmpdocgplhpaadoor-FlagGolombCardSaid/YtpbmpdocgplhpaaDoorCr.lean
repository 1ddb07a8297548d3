/-
  'flag.CountRings' computes what a plain function computes.
-/
import Derived.Test.YtpbmpdocgplhpaaDoorVc6
import Derived.Test.YtpbmpdocgplhpaaDoorBase
set_option linter.unusedSimpArgs false
set_option linter.unusedVariables false
set_option maxRecDepth 100000
namespace Go.Proofs.YtpbmpdocgplhpaaDoor
open Go Go.AM

theorem ti2 : ti Tryd.prog 2 = some ⟨.int .i64, 1, 8, .int .i64 0⟩ := by kernel_rfl
theorem ti3 : ti Tryd.prog 3 = some ⟨.int .i64, 1, 8, .int .i64 0⟩ := by kernel_rfl
theorem ti9 : ti Tryd.prog 9 = some ⟨.string, 1, 16, .string .empty⟩ := by kernel_rfl
theorem ti22 : ti Tryd.prog 22 = some ⟨.slice 9, 1, 24, .slice none 0 0⟩ := by kernel_rfl
theorem ti72 : ti Tryd.prog 72 = some ⟨.slice 2, 1, 24, .slice none 0 0⟩ := by kernel_rfl

abbrev I (n : Int) : Value := .int .i64 n
def ints (W : List Int) : List Value := W.map fun z => .int .i64 z
theorem ints_length (W : List Int) : (ints W).length = W.length := by simp [ints]
theorem ints_get {W : List Int} {i : Nat} (h : i < W.length) : (ints W)[i]? = some (I (W.getD i 0)) := by
  simp [ints, List.getD_eq_getElem?_getD, List.getElem?_eq_getElem h]
theorem ints_set (W : List Int) (i : Nat) (z : Int) (h : i < W.length) : splice (ints W) i [I z] = ints (W.set i z) := by
  simp only [splice, ints, List.length_singleton]
  rw [List.set_eq_take_append_cons_drop, if_pos h]
  simp [List.map_take, List.map_drop]

theorem load_row {P : Program} {h : AHeap} {t b o : Nat} {it : TI} {cs : List Value} {own : Bool} {v : Value} (ht : ti P t = some it) (ha : it.isAgg = false) (hb : h[b]? = some (.row cs own)) (hv : cs[o]? = some v) :
    aload P h t (.pointer (some ⟨b, o, none⟩)) = some v := by
  simp [aload, ht, ha, load1, cells?, hb, hv]
theorem store_row {P : Program} {h : AHeap} {t b o : Nat} {it : TI} {cs : List Value} {v : Value} (ht : ti P t = some it) (hs : it.size = 1) (hc : v.cells = #[v]) (hd : isData v = true) (hi : isCell v = true) (hb : h[b]? = some (.row cs true)) (ho : o < cs.length) :
    astore P h t (.pointer (some ⟨b, o, none⟩)) v = some (h.set b (.row (splice cs o [v]) true)) := by
  simp [astore, ht, hs, hc, hd, storeN, hb, hi]
  omega

/-- The inner loop: at d, with t rounds to go. -/
def crInner (m : Nat) : Nat → Nat → List Int → List Int
  | 0, _, W => W
  | t + 1, d, W => crInner m t (d + 1) (if Int.tmod m d = 0 then W.set m (IntKind.wrap .i64 (W.getD m 0 - W.getD d 0)) else W)
theorem crInner_length (m : Nat) : ∀ (t d : Nat) (W : List Int), (crInner m t d W).length = W.length := by
  intro t
  induction t with
  | zero => intro d W; rfl
  | succ t ih => intro d W; simp only [crInner]; rw [ih]; split <;> simp

theorem wrap_small {n : Int} (h : 0 ≤ n) (h2 : n < 9223372036854775808) : IntKind.wrap .i64 n = n := by
  have e : n % (2 : Int) ^ 64 = n := Int.emod_eq_of_lt h (by have : (2 : Int) ^ 64 = 18446744073709551616 := by decide
                                                             omega)
  simp [IntKind.wrap, IntKind.bits, IntKind.signed, e]
  omega

/-- What is known of a few slots. -/
def Knows (f : Nat → Value) (l : List (Nat × Value)) : Prop := l.map (fun p => f p.1) = l.map (·.2)

def crSlots (k n al m : Int) (b N : Nat) : List (Nat × Value) := [(0, I k), (1, I n), (6, .slice (some ⟨b, 0, some 1⟩) N N), (7, I al), (8, I m)]

theorem cr_inner {X : Ext} {Q : AExit → FS → Prop} (k n al : Int) (b N m : Nat) (hm : m < N) (hN : N ≤ 61) (h0 : AHeap) (hb : b < h0.length) : ∀ (t d : Nat) (f : Nat → Value) (W : List Int), d + t = m → 1 ≤ d → W.length = N →
    Knows f (crSlots k n al m b N ++ [(9, I d)]) →
    (∀ f', Knows f' (crSlots k n al (m + 1 : Nat) b N) → Fin Tryd.prog X none Tryd.f16.ntmps (lpN Tryd.f16 0) .normal ⟨f', h0.set b (.row (ints (crInner m t d W)) true)⟩ Q) →
    Fin Tryd.prog X none Tryd.f16.ntmps (lpN Tryd.f16 1) .normal ⟨f, h0.set b (.row (ints W) true)⟩ Q := by
  intro t
  induction t with
  | zero =>
    intro d f W hd h1 hW hf K
    obtain rfl : d = m := by omega
    refine Fin_known _ hf ?_
    refine Fin_unrl ?_
    refine Run 1000 ?_
    refine Fin_c ((d : Int) < d) (by kernel_rfl) (fun h1 => by omega) (fun h2 => ?_)
    refine Run 1000 ?_
    refine Fin_goto (lpN Tryd.f16 0) (h0.set b (.row (ints W) true)) (crSlots k n al (IntKind.wrap .i64 (d + 1)) b N) (by kernel_rfl) (by kernel_rfl) (by kernel_rfl) (fun f' hf' => ?_)
    rw [wrap_small (by omega) (by omega)] at hf'
    exact K f' hf'
  | succ t ih =>
    intro d f W hd h1 hW hf K
    refine Fin_known _ hf ?_
    refine Fin_unrl ?_
    refine Run 1000 ?_
    refine Fin_c ((d : Int) < m) (by kernel_rfl) (fun h1 => ?_) (fun h2 => by omega)
    refine Run 1000 ?_
    refine Bin .rem 3 (I m) (I d) (I (Int.tmod m d)) (by kernel_rfl) (by kernel_rfl) (by simp [abin, aint]; omega) ?_
    refine Run 1000 ?_
    have hw : IntKind.wrap .i64 ((d : Int) + 1) = ((d + 1 : Nat) : Int) := by rw [wrap_small (by omega) (by omega)]; simp
    have hset : ∀ r, (h0.set b r)[b]? = some r := by intro r; simp [hb]
    refine Fin_cB (Int.tmod m d == 0) (by kernel_rfl) ?_
    by_cases hr : Int.tmod m d = 0
    · have hr' : (Int.tmod (m : Int) d == 0) = true := by simp [hr]
      rw [hr']
      refine Run 1000 ?_
      refine Draw (by kernel_rfl) ?_
      refine Run 1000 ?_
      refine IdxA 72 b 0 1 N N .i64 m (by kernel_rfl) (by kernel_rfl) ti72 rfl ti2 rfl (by omega) (by omega) ?_
      refine Run 1000 ?_
      refine Load 2 (.pointer (some ⟨b, 0 + (m : Int).toNat * 1, none⟩)) (I (W.getD m 0)) (by kernel_rfl) (by kernel_rfl) (load_row ti2 rfl (hset _) (by simpa using ints_get (by omega))) ?_
      refine Run 1000 ?_
      refine IdxA 72 b 0 1 N N .i64 d (by kernel_rfl) (by kernel_rfl) ti72 rfl ti2 rfl (by omega) (by omega) ?_
      refine Run 1000 ?_
      refine Load 2 (.pointer (some ⟨b, 0 + (d : Int).toNat * 1, none⟩)) (I (W.getD d 0)) (by kernel_rfl) (by kernel_rfl) (load_row ti2 rfl (hset _) (by simpa using ints_get (by omega))) ?_
      refine Run 1000 ?_
      refine IdxA 72 b 0 1 N N .i64 m (by kernel_rfl) (by kernel_rfl) ti72 rfl ti2 rfl (by omega) (by omega) ?_
      refine Run 1000 ?_
      refine Store 2 (.pointer (some ⟨b, 0 + (m : Int).toNat * 1, none⟩)) (I (IntKind.wrap .i64 (W.getD m 0 - W.getD d 0))) ((h0.set b (.row (ints W) true)).set b (.row (splice (ints W) (0 + (m : Int).toNat * 1) [I (IntKind.wrap .i64 (W.getD m 0 - W.getD d 0))]) true)) (by kernel_rfl) (by kernel_rfl) (store_row ti2 rfl rfl rfl rfl (hset _) (by rw [ints_length]; simp; omega)) ?_
      rw [List.set_set, show 0 + (m : Int).toNat * 1 = m by simp, ints_set _ _ _ (by omega)]
      refine Run 1000 ?_
      refine Fin_goto (lpN Tryd.f16 1) (h0.set b (.row (ints (W.set m (IntKind.wrap .i64 (W.getD m 0 - W.getD d 0)))) true)) (crSlots k n al m b N ++ [(9, I (IntKind.wrap .i64 ((d : Int) + 1)))]) (by kernel_rfl) (by kernel_rfl) (by kernel_rfl) (fun f' hf' => ?_)
      rw [hw] at hf'
      refine ih (d + 1) f' _ (by omega) (by omega) (by simpa using hW) hf' (fun f2 hf2 => ?_)
      have := K f2 hf2
      simpa [crInner, hr] using this
    · have hr' : (Int.tmod (m : Int) d == 0) = false := by simp [hr]
      rw [hr']
      refine Run 1000 ?_
      refine Fin_goto (lpN Tryd.f16 1) (h0.set b (.row (ints W) true)) (crSlots k n al m b N ++ [(9, I (IntKind.wrap .i64 ((d : Int) + 1)))]) (by kernel_rfl) (by kernel_rfl) (by kernel_rfl) (fun f' hf' => ?_)
      rw [hw] at hf'
      refine ih (d + 1) f' _ (by omega) (by omega) hW hf' (fun f2 hf2 => ?_)
      have := K f2 hf2
      simpa [crInner, hr] using this

/-- The outer loop: at m, with t rounds to go; all: the number of all words of length m - 1. -/
def crOuter (k : Int) : Nat → Nat → Int → List Int → Option (List Int)
  | 0, _, _, W => some W
  | t + 1, m, al, W => if al > IntKind.wrap .i64 (Int.tdiv 1000000000000000000 k) then none
    else crOuter k t (m + 1) (IntKind.wrap .i64 (al * k)) (crInner m (m - 1) 1 (W.set m (IntKind.wrap .i64 (al * k))))
/-- What 'CountRings' answers. -/
def countRings (k n : Int) : Int × Int :=
  if k < 1 ∨ 9 < k ∨ n < 1 ∨ 60 < n then (0, 1)
  else match crOuter k n.toNat 1 1 (List.replicate (n.toNat + 1) 0) with
    | none => (0, 1)
    | some W => (IntKind.wrap .i64 (Int.tdiv (W.getD n.toNat 0) n), 0)

/-- What a call leaves behind: nothing of what was is changed. -/
def Grew (h h' : AHeap) : Prop := ∃ g, h' = h ++ g

def crAns (n : Nat) : Option (List Int) → Value
  | none => .tuple #[I 0, I 1]
  | some W => .tuple #[I (IntKind.wrap .i64 (Int.tdiv (W.getD n 0) n)), I 0]

theorem cr_outer {X : Ext} (k : Int) (hk : 1 ≤ k) (n b N : Nat) (hn : 1 ≤ n) (hnN : n + 1 = N) (hN : N ≤ 61) (h0 : AHeap) (hb : b < h0.length) :
    ∀ (t m : Nat) (al : Int) (f : Nat → Value) (W : List Int), m + t = n + 1 → 1 ≤ m → W.length = N →
    Knows f (crSlots k n al m b N) →
    Fin Tryd.prog X none Tryd.f16.ntmps (lpN Tryd.f16 0) .normal ⟨f, h0.set b (.row (ints W) true)⟩ (fun e y => e = .ret ∧ (∃ W', y.h = h0.set b (.row (ints W') true)) ∧ fresults Tryd.prog Tryd.f16.results.toList y = some (crAns n (crOuter k t m al W))) := by
  have hset : ∀ r, (h0.set b r)[b]? = some r := by intro r; simp [hb]
  intro t
  induction t with
  | zero =>
    intro m al f W hmt h1 hW hf
    refine Fin_known _ hf ?_
    refine Fin_unrl ?_
    refine Run 1000 ?_
    refine Fin_c ((m : Int) ≤ n) (by kernel_rfl) (fun h1 => by omega) (fun h2 => ?_)
    refine Run 1000 ?_
    refine IdxA 72 b 0 1 N N .i64 n (by kernel_rfl) (by kernel_rfl) ti72 rfl ti2 rfl (by omega) (by omega) ?_
    refine Run 1000 ?_
    refine Load 2 (.pointer (some ⟨b, 0 + (n : Int).toNat * 1, none⟩)) (I (W.getD n 0)) (by kernel_rfl) (by kernel_rfl) (load_row ti2 rfl (hset _) (by simpa using ints_get (by omega))) ?_
    refine Run 1000 ?_
    refine Bin .quo 2 (I (W.getD n 0)) (I n) (I (IntKind.wrap .i64 (Int.tdiv (W.getD n 0) n))) (by kernel_rfl) (by kernel_rfl) (by simp [abin, aint]; omega) ?_
    refine Run 1000 ?_
    exact Fin_r (by kernel_rfl) ⟨rfl, ⟨W, rfl⟩, by kernel_rfl⟩
  | succ t ih =>
    intro m al f W hmt h1 hW hf
    refine Fin_known _ hf ?_
    refine Fin_unrl ?_
    refine Run 1000 ?_
    refine Fin_c ((m : Int) ≤ n) (by kernel_rfl) (fun h2 => ?_) (fun h2 => by omega)
    refine Run 1000 ?_
    refine Bin .quo 2 (I 1000000000000000000) (I k) (I (IntKind.wrap .i64 (Int.tdiv 1000000000000000000 k))) (by kernel_rfl) (by kernel_rfl) (by simp [abin, aint]; omega) ?_
    refine Run 1000 ?_
    refine Fin_c (al > IntKind.wrap .i64 (Int.tdiv 1000000000000000000 k)) (by kernel_rfl) (fun h3 => ?_) (fun h3 => ?_)
    · refine Run 1000 ?_
      refine Fin_r (by kernel_rfl) ⟨rfl, ⟨W, rfl⟩, ?_⟩
      rw [crOuter, if_pos h3]
      kernel_rfl
    · refine Run 1000 ?_
      refine IdxA 72 b 0 1 N N .i64 m (by kernel_rfl) (by kernel_rfl) ti72 rfl ti2 rfl (by omega) (by omega) ?_
      refine Run 1000 ?_
      refine Store 2 (.pointer (some ⟨b, 0 + (m : Int).toNat * 1, none⟩)) (I (IntKind.wrap .i64 (al * k))) ((h0.set b (.row (ints W) true)).set b (.row (splice (ints W) (0 + (m : Int).toNat * 1) [I (IntKind.wrap .i64 (al * k))]) true)) (by kernel_rfl) (by kernel_rfl) (store_row ti2 rfl rfl rfl rfl (hset _) (by rw [ints_length]; simp; omega)) ?_
      rw [List.set_set, show 0 + (m : Int).toNat * 1 = m by simp, ints_set _ _ _ (by omega)]
      refine Run 1000 ?_
      refine Fin_goto (lpN Tryd.f16 1) (h0.set b (.row (ints (W.set m (IntKind.wrap .i64 (al * k)))) true)) (crSlots k n (IntKind.wrap .i64 (al * k)) m b N ++ [(9, I (1 : Nat))]) (by kernel_rfl) (by kernel_rfl) (by kernel_rfl) (fun f' hf' => ?_)
      refine cr_inner k n (IntKind.wrap .i64 (al * k)) b N m (by omega) hN h0 hb (m - 1) 1 f' _ (by omega) (Nat.le_refl 1) (by simpa using hW) hf' (fun f2 hf2 => ?_)
      have := ih (m + 1) (IntKind.wrap .i64 (al * k)) f2 (crInner m (m - 1) 1 (W.set m (IntKind.wrap .i64 (al * k)))) (by omega) (by omega) (by rw [crInner_length]; simpa using hW) hf2
      rw [crOuter, if_neg h3]
      exact this

theorem cr_spec {X : Ext} (hX : X 16 = none) (k n : Int) (h : AHeap) : Ca Tryd.prog X (.fn 16) [I k, I n] h (fun v h' => v = .tuple #[I (countRings k n).1, I (countRings k n).2] ∧ Grew h h') := by
  refine Ca_fn (fn := Tryd.f16) (c := Tryd.f16.body.getD .skip) hX (by kernel_rfl) (by kernel_rfl) (by kernel_rfl) ?_
  have refused : (k < 1 ∨ 9 < k ∨ n < 1 ∨ 60 < n) → Value.tuple #[I 0, I 1] = .tuple #[I (countRings k n).1, I (countRings k n).2] := by
    intro hh; simp [countRings, hh]
  have same : Grew h h := ⟨[], by simp⟩
  refine Run 1000 ?_
  refine Fin_g (k < 1) (by kernel_rfl) (by kernel_rfl) (fun h1 => ?_) (fun h1 => ?_)
  · refine Run 1000 ?_
    refine Fin_gB true (by kernel_rfl) (by kernel_rfl) ?_
    refine Run 1000 ?_
    refine Fin_gB true (by kernel_rfl) (by kernel_rfl) ?_
    refine Run 1000 ?_
    refine Fin_cB true (by kernel_rfl) ?_
    refine Run 1000 ?_
    exact Fin_r (by kernel_rfl) ⟨Or.inr rfl, .tuple #[(I 0), (I 1)], by kernel_rfl, refused (by omega), same⟩
  · refine Run 1000 ?_
    refine Fin_g (k > 9) (by kernel_rfl) (by kernel_rfl) (fun h2 => ?_) (fun h2 => ?_)
    · refine Run 1000 ?_
      refine Fin_gB true (by kernel_rfl) (by kernel_rfl) ?_
      refine Run 1000 ?_
      refine Fin_cB true (by kernel_rfl) ?_
      refine Run 1000 ?_
      exact Fin_r (by kernel_rfl) ⟨Or.inr rfl, .tuple #[(I 0), (I 1)], by kernel_rfl, refused (by omega), same⟩
    · refine Run 1000 ?_
      refine Fin_g (n < 1) (by kernel_rfl) (by kernel_rfl) (fun h3 => ?_) (fun h3 => ?_)
      · refine Run 1000 ?_
        refine Fin_cB true (by kernel_rfl) ?_
        refine Run 1000 ?_
        exact Fin_r (by kernel_rfl) ⟨Or.inr rfl, .tuple #[(I 0), (I 1)], by kernel_rfl, refused (by omega), same⟩
      · refine Run 1000 ?_
        refine Fin_c (n > 60) (by kernel_rfl) (fun h4 => ?_) (fun h4 => ?_)
        · refine Run 1000 ?_
          exact Fin_r (by kernel_rfl) ⟨Or.inr rfl, .tuple #[(I 0), (I 1)], by kernel_rfl, refused (by omega), same⟩
        · refine Run 1000 ?_
          obtain ⟨m, rfl⟩ : ∃ m : Nat, n = m := ⟨n.toNat, by omega⟩
          have hw : IntKind.wrap .i64 ((m : Int) + 1) = ((m + 1 : Nat) : Int) := by rw [wrap_small (by omega) (by omega)]; simp
          have hz : ∀ q : Nat, zerosOf [I 0] q = ints (List.replicate q 0) := by
            intro q
            induction q with
            | zero => rfl
            | succ q ih => simp only [zerosOf, ih, ints, List.replicate_succ, List.map_cons]; rfl
          refine Go.AM.Make 72 (I (IntKind.wrap .i64 ((m : Int) + 1))) (I (IntKind.wrap .i64 ((m : Int) + 1))) (.slice (some ⟨h.length, 0, some 1⟩) (m + 1) (m + 1)) (h ++ [.row (ints (List.replicate (m + 1) 0)) true]) (by kernel_rfl) (by kernel_rfl) ?_ ?_
          · rw [hw]
            simp only [amakeSlice, ti72, asIdx, ti2]
            have : (0 : Int) ≤ ((m + 1 : Nat) : Int) ∧ ((m + 1 : Nat) : Int) ≤ ((m + 1 : Nat) : Int) ∧ ((m + 1 : Nat) : Int) ≤ lim ∧ 8 ≤ limBytes ∧ 0 < 1 := by
              simp only [lim, limBytes]; omega
            simp only [this, and_self, if_true, Int.toNat_natCast, ← hz]
            rfl
          · refine Run 1000 ?_
            refine Fin_goto (lpN Tryd.f16 0) (h ++ [.row (ints (List.replicate (m + 1) 0)) true]) (crSlots k m 1 (1 : Nat) h.length (m + 1)) (by kernel_rfl) (by kernel_rfl) (by kernel_rfl) (fun f' hf' => ?_)
            have key := cr_outer (X := X) k (by omega) m h.length (m + 1) (by omega) rfl (by omega) (h ++ [.row (ints (List.replicate (m + 1) 0)) true]) (by simp) m 1 1 f' (List.replicate (m + 1) 0) (by omega) (Nat.le_refl 1) (by simp) hf'
            have e : ∀ y, (h ++ [AObj.row (ints (List.replicate (m + 1) 0)) true]).set h.length y = h ++ [y] := by intro y; simp
            simp only [e] at key
            refine key.imp fun e y ⟨he, ⟨W', hy⟩, hr⟩ => ⟨Or.inr he, _, hr, ?_, ⟨_, hy⟩⟩
            have hn : ¬(k < 1 ∨ 9 < k ∨ (m : Int) < 1 ∨ 60 < (m : Int)) := by omega
            simp only [countRings, if_neg hn, Int.toNat_natCast]
            cases crOuter k m 1 1 (List.replicate (m + 1) 0) <;> rfl
end Go.Proofs.YtpbmpdocgplhpaaDoor
