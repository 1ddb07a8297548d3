/-
  The reference's Free.
-/
import Derived.Test.YtpbmpdocgplhpaaGreatDoorME
import Derived.Test.YtpbmpdocgplhpaaGreatDoorMH
set_option linter.unusedSimpArgs false
set_option linter.unusedVariables false
set_option maxRecDepth 100000
namespace Go.Proofs.YtpbmpdocgplhpaaGreatDoor
open Go Go.AM

/-- Whether some word ends in the first p letters, and whether some word begins with the others. -/
def enAt (L : List ByteArray) (x : ByteArray) (p : Nat) : Bool := L.any fun y => seq (y.extract (y.size - p) y.size) (x.extract 0 p)
def beAt (L : List ByteArray) (x : ByteArray) (p : Nat) : Bool := L.any fun y => seq (y.extract 0 (y.size - p)) (x.extract p x.size)
def freeWord (L : List ByteArray) (x : ByteArray) (p : Nat) : Bool := (List.range' p (x.size - p)).all fun p => !(enAt L x p && beAt L x p)
/-- The reference's Free. -/
def freeF (L : List ByteArray) : Bool := L.all fun x => freeWord L x 1

section
variable {X : Ext} (h : AHeap) (a : Option Addr) (kk : Nat) (L : List ByteArray) (n : Nat)
def RetB (fn : Func) (h : AHeap) (b : Bool) (e : AExit) (y : FS) : Prop := (e = .normal ∨ e = .ret) ∧ ∃ v, fresults Tryz.prog fn.results.toList y = some v ∧ v = .bool b ∧ y.h = h

theorem free_in (hL : L.length < 1000000) (hst : Strs h a L) (hw : ∀ w ∈ L, w.size = n) (hn : n ≤ 1000) (i p : Nat) (hi : i < L.length) (hp1 : 1 ≤ p) (hp : p < n) (x : ByteArray) (hx : x = L[i]) (res : Bool)
    (hret : (enAt L x p && beAt L x p) = true → res = false)
    (K : (enAt L x p && beAt L x p) = false → ∀ f', Knows f' [(0, .slice a L.length kk), (3, I i), (4, I (p + 1 : Nat))] → Fin Tryz.prog X none Tryz.f16.ntmps (lpN Tryz.f16 1) .normal ⟨f', h⟩ (RetB Tryz.f16 h res)) :
    ∀ (t q : Nat) (en be : Bool) (f : Nat → Value), q + t = L.length → (en || enAt (L.drop q) x p) = enAt L x p → (be || beAt (L.drop q) x p) = beAt L x p → Knows f [(0, .slice a L.length kk), (3, I i), (4, I p), (5, .bool en), (6, .bool be), (7, I q)] →
    Fin Tryz.prog X none Tryz.f16.ntmps (lpN Tryz.f16 2) .normal ⟨f, h⟩ (RetB Tryz.f16 h res) := by
  intro t
  induction t with
  | zero =>
    intro q en be f hq he hb hf
    rw [List.drop_of_length_le (by omega)] at he hb
    have he' : en = enAt L x p := by rw [← he]; cases en <;> rfl
    have hb' : be = beAt L x p := by rw [← hb]; cases be <;> rfl
    rw [← he', ← hb'] at hret K
    have hnext : IntKind.wrap .i64 ((p : Int) + 1) = ((p + 1 : Nat) : Int) := wrap_next (n := n) (by omega) (by omega)
    refine Fin_known _ hf ?_
    refine Fin_unrl ?_
    refine Run 1000 ?_
    refine Fin_c ((q : Int) < L.length) (by kernel_rfl) (fun h1 => by omega) (fun h1 => ?_)
    cases en with
    | false =>
      refine RunA 1000 2 ?_
      refine Fin_goto (lpN Tryz.f16 1) h [(0, .slice a L.length kk), (3, I i), (4, I (IntKind.wrap .i64 ((p : Int) + 1)))] (by kernel_rfl) (by kernel_rfl) (by kernel_rfl) (fun f' hf' => ?_)
      rw [hnext] at hf'
      exact K rfl f' hf'
    | true =>
      cases be with
      | false =>
        refine RunA 1000 2 ?_
        refine Fin_goto (lpN Tryz.f16 1) h [(0, .slice a L.length kk), (3, I i), (4, I (IntKind.wrap .i64 ((p : Int) + 1)))] (by kernel_rfl) (by kernel_rfl) (by kernel_rfl) (fun f' hf' => ?_)
        rw [hnext] at hf'
        exact K rfl f' hf'
      | true =>
        refine RunA 1000 2 ?_
        refine Fin_r (by kernel_rfl) ⟨Or.inr rfl, .bool false, by kernel_rfl, ?_, rfl⟩
        rw [hret rfl]
  | succ t ih =>
    intro q en be f hq he hb hf
    have hlt : q < L.length := by omega
    obtain ⟨b, o, rfl, _⟩ := hst.at hlt
    obtain ⟨y, ey⟩ : ∃ y, y = L[q] := ⟨_, rfl⟩
    have hysz : y.size = n := by rw [ey]; exact hw _ (List.getElem_mem hlt)
    have hxsz : x.size = n := by rw [hx]; exact hw _ (List.getElem_mem hi)
    have ldy : aload Tryz.prog h 9 (.pointer (some ⟨b, o + (q : Int).toNat * 1, none⟩)) = some (.string y) := by rw [ey]; exact hst.load9 hlt rfl (by simp)
    have ldx : aload Tryz.prog h 9 (.pointer (some ⟨b, o + (i : Int).toNat * 1, none⟩)) = some (.string x) := by rw [hx]; exact hst.load9 hi rfl (by simp)
    have hd : L.drop q = y :: L.drop (q + 1) := by rw [ey]; exact List.drop_eq_getElem_cons hlt
    have hsub : IntKind.wrap .i64 ((y.size : Int) - p) = ((y.size - p : Nat) : Int) := by rw [wrap_small (by omega) (by omega)]; omega
    have hnext : IntKind.wrap .i64 ((q : Int) + 1) = ((q + 1 : Nat) : Int) := wrap_next hlt (by omega)
    have he1 : enAt (L.drop q) x p = (seq (y.extract (y.size - p) y.size) (x.extract 0 p) || enAt (L.drop (q + 1)) x p) := by rw [hd]; rfl
    have hb1 : beAt (L.drop q) x p = (seq (y.extract 0 (y.size - p)) (x.extract p x.size) || beAt (L.drop (q + 1)) x p) := by rw [hd]; rfl
    rw [he1] at he
    rw [hb1] at hb
    refine Fin_known _ hf ?_
    refine Fin_unrl ?_
    refine Run 1000 ?_
    refine Fin_c ((q : Int) < L.length) (by kernel_rfl) (fun h1 => ?_) (fun h1 => by omega)
    refine Run 1000 ?_
    refine Draw (by kernel_rfl) ?_
    refine Run 1000 ?_
    cases en with
    | true =>
      refine Fin_gB true (by kernel_rfl) (by kernel_rfl) ?_
      refine Run 1000 ?_
      refine Draw (by kernel_rfl) ?_
      refine Run 1000 ?_
      cases be with
      | true =>
        refine Fin_gB true (by kernel_rfl) (by kernel_rfl) ?_
        refine Run 1000 ?_
        refine Fin_goto (lpN Tryz.f16 2) h [(0, .slice (some ⟨b, o, some 1⟩) L.length kk), (3, I i), (4, I p), (5, .bool true), (6, .bool true), (7, I (IntKind.wrap .i64 ((q : Int) + 1)))] (by kernel_rfl) (by kernel_rfl) (by kernel_rfl) (fun f' hf' => ?_)
        rw [hnext] at hf'
        exact ih (q + 1) true true f' (by omega) (by rw [← he]; rfl) (by rw [← hb]; rfl) hf'
      | false =>
        refine Fin_gB false (by kernel_rfl) (by kernel_rfl) ?_
        refine Run 1000 ?_
        refine IdxA 27 b o 1 L.length kk .i64 q (by kernel_rfl) (by kernel_rfl) ti22 rfl ti9 rfl (by omega) (by omega) ?_
        refine Run 1000 ?_
        refine Load 9 (.pointer (some ⟨b, o + (q : Int).toNat * 1, none⟩)) (.string y) (by kernel_rfl) (by kernel_rfl) ldy ?_
        refine Run 1000 ?_
        refine IdxA 27 b o 1 L.length kk .i64 q (by kernel_rfl) (by kernel_rfl) ti22 rfl ti9 rfl (by omega) (by omega) ?_
        refine Run 1000 ?_
        refine Load 9 (.pointer (some ⟨b, o + (q : Int).toNat * 1, none⟩)) (.string y) (by kernel_rfl) (by kernel_rfl) ldy ?_
        refine Run 1000 ?_
        refine Slic 9 (.string y) (.string (y.extract 0 (y.size - p))) none (some (I (IntKind.wrap .i64 ((y.size : Int) - p)))) none (by kernel_rfl) (by kernel_rfl) (by rw [hsub]; exact slice_to y (y.size - p) (by omega)) ?_
        refine Run 1000 ?_
        refine IdxA 27 b o 1 L.length kk .i64 i (by kernel_rfl) (by kernel_rfl) ti22 rfl ti9 rfl (by omega) (by omega) ?_
        refine Run 1000 ?_
        refine Load 9 (.pointer (some ⟨b, o + (i : Int).toNat * 1, none⟩)) (.string x) (by kernel_rfl) (by kernel_rfl) ldx ?_
        refine Run 1000 ?_
        refine Slic 9 (.string x) (.string (x.extract p x.size)) (some (I p)) none none (by kernel_rfl) (by kernel_rfl) (slice_from x p (by omega)) ?_
        refine Run 1000 ?_
        refine Fin_goto (lpN Tryz.f16 2) h [(0, .slice (some ⟨b, o, some 1⟩) L.length kk), (3, I i), (4, I p), (5, .bool true), (6, .bool (seq (y.extract 0 (y.size - p)) (x.extract p x.size))), (7, I (IntKind.wrap .i64 ((q : Int) + 1)))] (by kernel_rfl) (by kernel_rfl) (by kernel_rfl) (fun f' hf' => ?_)
        rw [hnext] at hf'
        exact ih (q + 1) true _ f' (by omega) (by rw [← he]; rfl) (by rw [← hb]; simp) hf'
    | false =>
      refine Fin_gB false (by kernel_rfl) (by kernel_rfl) ?_
      refine Run 1000 ?_
      refine IdxA 27 b o 1 L.length kk .i64 q (by kernel_rfl) (by kernel_rfl) ti22 rfl ti9 rfl (by omega) (by omega) ?_
      refine Run 1000 ?_
      refine Load 9 (.pointer (some ⟨b, o + (q : Int).toNat * 1, none⟩)) (.string y) (by kernel_rfl) (by kernel_rfl) ldy ?_
      refine Run 1000 ?_
      refine IdxA 27 b o 1 L.length kk .i64 q (by kernel_rfl) (by kernel_rfl) ti22 rfl ti9 rfl (by omega) (by omega) ?_
      refine Run 1000 ?_
      refine Load 9 (.pointer (some ⟨b, o + (q : Int).toNat * 1, none⟩)) (.string y) (by kernel_rfl) (by kernel_rfl) ldy ?_
      refine Run 1000 ?_
      refine Slic 9 (.string y) (.string (y.extract (y.size - p) y.size)) (some (I (IntKind.wrap .i64 ((y.size : Int) - p)))) none none (by kernel_rfl) (by kernel_rfl) (by rw [hsub]; exact slice_from y (y.size - p) (by omega)) ?_
      refine Run 1000 ?_
      refine IdxA 27 b o 1 L.length kk .i64 i (by kernel_rfl) (by kernel_rfl) ti22 rfl ti9 rfl (by omega) (by omega) ?_
      refine Run 1000 ?_
      refine Load 9 (.pointer (some ⟨b, o + (i : Int).toNat * 1, none⟩)) (.string x) (by kernel_rfl) (by kernel_rfl) ldx ?_
      refine Run 1000 ?_
      refine Slic 9 (.string x) (.string (x.extract 0 p)) none (some (I p)) none (by kernel_rfl) (by kernel_rfl) (slice_to x p (by omega)) ?_
      refine Run 1000 ?_
      refine Draw (by kernel_rfl) ?_
      refine Run 1000 ?_
      cases be with
      | true =>
        refine Fin_gB true (by kernel_rfl) (by kernel_rfl) ?_
        refine Run 1000 ?_
        refine Fin_goto (lpN Tryz.f16 2) h [(0, .slice (some ⟨b, o, some 1⟩) L.length kk), (3, I i), (4, I p), (5, .bool (seq (y.extract (y.size - p) y.size) (x.extract 0 p))), (6, .bool true), (7, I (IntKind.wrap .i64 ((q : Int) + 1)))] (by kernel_rfl) (by kernel_rfl) (by kernel_rfl) (fun f' hf' => ?_)
        rw [hnext] at hf'
        exact ih (q + 1) _ true f' (by omega) (by rw [← he]; simp) (by rw [← hb]; rfl) hf'
      | false =>
        refine Fin_gB false (by kernel_rfl) (by kernel_rfl) ?_
        refine Run 1000 ?_
        refine IdxA 27 b o 1 L.length kk .i64 q (by kernel_rfl) (by kernel_rfl) ti22 rfl ti9 rfl (by omega) (by omega) ?_
        refine Run 1000 ?_
        refine Load 9 (.pointer (some ⟨b, o + (q : Int).toNat * 1, none⟩)) (.string y) (by kernel_rfl) (by kernel_rfl) ldy ?_
        refine Run 1000 ?_
        refine IdxA 27 b o 1 L.length kk .i64 q (by kernel_rfl) (by kernel_rfl) ti22 rfl ti9 rfl (by omega) (by omega) ?_
        refine Run 1000 ?_
        refine Load 9 (.pointer (some ⟨b, o + (q : Int).toNat * 1, none⟩)) (.string y) (by kernel_rfl) (by kernel_rfl) ldy ?_
        refine Run 1000 ?_
        refine Slic 9 (.string y) (.string (y.extract 0 (y.size - p))) none (some (I (IntKind.wrap .i64 ((y.size : Int) - p)))) none (by kernel_rfl) (by kernel_rfl) (by rw [hsub]; exact slice_to y (y.size - p) (by omega)) ?_
        refine Run 1000 ?_
        refine IdxA 27 b o 1 L.length kk .i64 i (by kernel_rfl) (by kernel_rfl) ti22 rfl ti9 rfl (by omega) (by omega) ?_
        refine Run 1000 ?_
        refine Load 9 (.pointer (some ⟨b, o + (i : Int).toNat * 1, none⟩)) (.string x) (by kernel_rfl) (by kernel_rfl) ldx ?_
        refine Run 1000 ?_
        refine Slic 9 (.string x) (.string (x.extract p x.size)) (some (I p)) none none (by kernel_rfl) (by kernel_rfl) (slice_from x p (by omega)) ?_
        refine Run 1000 ?_
        refine Fin_goto (lpN Tryz.f16 2) h [(0, .slice (some ⟨b, o, some 1⟩) L.length kk), (3, I i), (4, I p), (5, .bool (seq (y.extract (y.size - p) y.size) (x.extract 0 p))), (6, .bool (seq (y.extract 0 (y.size - p)) (x.extract p x.size))), (7, I (IntKind.wrap .i64 ((q : Int) + 1)))] (by kernel_rfl) (by kernel_rfl) (by kernel_rfl) (fun f' hf' => ?_)
        rw [hnext] at hf'
        exact ih (q + 1) _ _ f' (by omega) (by rw [← he]; simp) (by rw [← hb]; simp) hf'

theorem free_p (hL : L.length < 1000000) (hst : Strs h a L) (hw : ∀ w ∈ L, w.size = n) (hn : n ≤ 1000) (i : Nat) (hi : i < L.length) (x : ByteArray) (hx : x = L[i]) (res : Bool) (p0 : Nat)
    (hret : ∀ p, p0 ≤ p → p < n → (enAt L x p && beAt L x p) = true → res = false)
    (K : freeWord L x p0 = true → ∀ f', Knows f' [(0, .slice a L.length kk), (3, I (i + 1 : Nat))] → Fin Tryz.prog X none Tryz.f16.ntmps (lpN Tryz.f16 0) .normal ⟨f', h⟩ (RetB Tryz.f16 h res)) :
    ∀ (t p : Nat) (f : Nat → Value), p + t = n → p0 ≤ p → 1 ≤ p → (∀ p', p0 ≤ p' → p' < p → (enAt L x p' && beAt L x p') = false) → Knows f [(0, .slice a L.length kk), (3, I i), (4, I p)] →
    Fin Tryz.prog X none Tryz.f16.ntmps (lpN Tryz.f16 1) .normal ⟨f, h⟩ (RetB Tryz.f16 h res) := by
  have hxsz : x.size = n := by rw [hx]; exact hw _ (List.getElem_mem hi)
  obtain ⟨b, o, rfl, _⟩ := hst.at hi
  have ldx : aload Tryz.prog h 9 (.pointer (some ⟨b, o + (i : Int).toNat * 1, none⟩)) = some (.string x) := by rw [hx]; exact hst.load9 hi rfl (by simp)
  intro t
  induction t with
  | zero =>
    intro p f hp h0 h1 hall hf
    refine Fin_known _ hf ?_
    refine Fin_unrl ?_
    refine Run 1000 ?_
    refine IdxA 27 b o 1 L.length kk .i64 i (by kernel_rfl) (by kernel_rfl) ti22 rfl ti9 rfl (by omega) (by omega) ?_
    refine Run 1000 ?_
    refine Load 9 (.pointer (some ⟨b, o + (i : Int).toNat * 1, none⟩)) (.string x) (by kernel_rfl) (by kernel_rfl) ldx ?_
    refine Run 1000 ?_
    refine Fin_c ((p : Int) < x.size) (by kernel_rfl) (fun h3 => by omega) (fun h3 => ?_)
    refine Run 1000 ?_
    refine Fin_goto (lpN Tryz.f16 0) h [(0, .slice (some ⟨b, o, some 1⟩) L.length kk), (3, I (IntKind.wrap .i64 ((i : Int) + 1)))] (by kernel_rfl) (by kernel_rfl) (by kernel_rfl) (fun f' hf' => ?_)
    rw [wrap_next hi (by omega)] at hf'
    refine K ?_ f' hf'
    unfold freeWord
    rw [List.all_eq_true]
    intro p' hp'
    rw [List.mem_range'_1] at hp'
    rw [hall p' hp'.1 (by omega)]; rfl
  | succ t ih =>
    intro p f hp h0 h1 hall hf
    refine Fin_known _ hf ?_
    refine Fin_unrl ?_
    refine Run 1000 ?_
    refine IdxA 27 b o 1 L.length kk .i64 i (by kernel_rfl) (by kernel_rfl) ti22 rfl ti9 rfl (by omega) (by omega) ?_
    refine Run 1000 ?_
    refine Load 9 (.pointer (some ⟨b, o + (i : Int).toNat * 1, none⟩)) (.string x) (by kernel_rfl) (by kernel_rfl) ldx ?_
    refine Run 1000 ?_
    refine Fin_c ((p : Int) < x.size) (by kernel_rfl) (fun h3 => ?_) (fun h3 => by omega)
    refine Run 1000 ?_
    refine Fin_goto (lpN Tryz.f16 2) h [(0, .slice (some ⟨b, o, some 1⟩) L.length kk), (3, I i), (4, I p), (5, .bool false), (6, .bool false), (7, I (0 : Nat))] (by kernel_rfl) (by kernel_rfl) (by kernel_rfl) (fun f' hf' => ?_)
    exact free_in h _ kk L n hL hst hw hn i p hi h1 (by omega) x hx res (hret p h0 (by omega)) (fun hno f2 hf2 => ih (p + 1) f2 (by omega) (by omega) (by omega) (fun p' h2 h3 => by
      by_cases he : p' = p
      · rw [he]; exact hno
      · exact hall p' h2 (by omega)) hf2) L.length 0 false false f' (by omega) rfl rfl hf'

theorem free_i (hL : L.length < 1000000) (hst : Strs h a L) (hw : ∀ w ∈ L, w.size = n) (hn1 : 1 ≤ n) (hn : n ≤ 1000) :
    ∀ (t i : Nat) (f : Nat → Value), i + t = L.length → Knows f [(0, .slice a L.length kk), (3, I i)] →
    Fin Tryz.prog X none Tryz.f16.ntmps (lpN Tryz.f16 0) .normal ⟨f, h⟩ (RetB Tryz.f16 h ((L.drop i).all fun x => freeWord L x 1)) := by
  intro t
  induction t with
  | zero =>
    intro i f hi hf
    refine Fin_known _ hf ?_
    refine Fin_unrl ?_
    refine Run 1000 ?_
    refine Fin_c ((i : Int) < L.length) (by kernel_rfl) (fun h1 => by omega) (fun h1 => ?_)
    refine Run 1000 ?_
    refine Fin_r (by kernel_rfl) ⟨Or.inr rfl, .bool true, by kernel_rfl, ?_, rfl⟩
    rw [List.drop_of_length_le (by omega)]; rfl
  | succ t ih =>
    intro i f hi hf
    have hlt : i < L.length := by omega
    obtain ⟨x, hx⟩ : ∃ x, x = L[i] := ⟨_, rfl⟩
    have hxsz : x.size = n := by rw [hx]; exact hw _ (List.getElem_mem hlt)
    have hd : L.drop i = x :: L.drop (i + 1) := by rw [hx]; exact List.drop_eq_getElem_cons hlt
    rw [hd, List.all_cons]
    refine Fin_known _ hf ?_
    refine Fin_unrl ?_
    refine Run 1000 ?_
    refine Fin_c ((i : Int) < L.length) (by kernel_rfl) (fun h1 => ?_) (fun h1 => by omega)
    refine Run 1000 ?_
    refine Fin_goto (lpN Tryz.f16 1) h [(0, .slice a L.length kk), (3, I i), (4, I (1 : Nat))] (by kernel_rfl) (by kernel_rfl) (by kernel_rfl) (fun f' hf' => ?_)
    refine free_p h a kk L n hL hst hw hn i hlt x hx _ 1 (fun p h1 h2 h3 => ?_) (fun hfw f2 hf2 => ?_) (n - 1) 1 f' (by omega) (Nat.le_refl _) (Nat.le_refl _) (fun p' h1 h2 => by omega) hf'
    · have : freeWord L x 1 = false := by
        rw [Bool.eq_false_iff]; intro hh
        unfold freeWord at hh
        rw [List.all_eq_true] at hh
        have := hh p (by rw [List.mem_range'_1]; omega)
        rw [h3] at this; simp at this
      rw [this, Bool.false_and]
    · rw [hfw, Bool.true_and]
      exact ih (i + 1) f2 (by omega) hf2
theorem free_spec (hX : X 16 = none) (hL : L.length < 1000000) (hst : Strs h a L) (hw : ∀ w ∈ L, w.size = n) (hn1 : 1 ≤ n) (hn : n ≤ 1000) :
    Ca Tryz.prog X (.fn 16) [.slice a L.length kk] h (fun v h' => v = .bool (freeF L) ∧ h' = h) := by
  refine Ca_fn (fn := Tryz.f16) (c := Tryz.f16.body.getD .skip) hX (by kernel_rfl) (by kernel_rfl) (by kernel_rfl) ?_
  refine Run 1000 ?_
  refine Fin_goto (lpN Tryz.f16 0) h [(0, .slice a L.length kk), (3, I (0 : Nat))] (by kernel_rfl) (by kernel_rfl) (by kernel_rfl) (fun f' hf' => ?_)
  exact free_i h a kk L n hL hst hw hn1 hn L.length 0 f' (by omega) hf'
end
end Go.Proofs.YtpbmpdocgplhpaaGreatDoor
