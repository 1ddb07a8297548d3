/-
  flag.words: the words in their order, handed to a body that goes on.
-/
import Derived.Test.YtpbmpdocgplhpaaDoorCmp
set_option linter.unusedSimpArgs false
set_option linter.unusedVariables false
set_option maxRecDepth 100000
namespace Go.Proofs.YtpbmpdocgplhpaaDoor
open Go Go.AM

/-- What stands below B (but for the round's object l), and all walks over strings, stand as they were. -/
structure Keep (B l m : Nat) (h h' : AHeap) : Prop where
  len : h.length ≤ h'.length
  low : ∀ (j : Nat), j < B → j ≠ l → j ≠ m → h'[j]? = h[j]?
  sit : ∀ (j : Nat) (s : ByteArray) (p : Nat), h[j]? = some (AObj.siter s p) → h'[j]? = h[j]?
theorem Keep.refl (B l m : Nat) (h : AHeap) : Keep B l m h h := ⟨Nat.le_refl _, fun _ _ _ _ => rfl, fun _ _ _ _ => rfl⟩
theorem Keep.trans {B l m : Nat} {h h1 h2 : AHeap} (a : Keep B l m h h1) (b : Keep B l m h1 h2) : Keep B l m h h2 :=
  ⟨Nat.le_trans a.len b.len, fun j hj hl hm => (b.low j hj hl hm).trans (a.low j hj hl hm), fun j s p hj => (b.sit j s p ((a.sit j s p hj).trans hj)).trans (a.sit j s p hj)⟩
/-- Only walks over strings, and what is new, may be other than they were. -/
structure Sit (h h' : AHeap) : Prop where
  len : h.length ≤ h'.length
  row : ∀ (j : Nat), j < h.length → (∀ (s : ByteArray) (p : Nat), h[j]? ≠ some (AObj.siter s p)) → h'[j]? = h[j]?

/-- A body that goes on at each word, and what it keeps. T: all the words. -/
structure Yields (X : Ext) (B l m : Nat) (T : List (List UInt8)) (I : List (List UInt8) → AHeap → Prop) : Prop where
  sit : ∀ L h h', I L h → Sit h h' → I L h'
  yld : ∀ L w R h, L ++ w :: R = T → I L h → B ≤ h.length → Ca Tryd.prog X (.yield l) [.string (gB w)] h (fun v h' => v = .bool true ∧ I (L ++ [w]) h' ∧ Keep B l m h h')

/-- The variables that the recursive function literal has caught. -/
structure Caps (l n k cn cy ck cg : Nat) (h : AHeap) : Prop where
  n : h[cn]? = some (.row [I n] true)
  y : h[cy]? = some (.row [.func (.yield l) #[] #[]] true)
  k : h[ck]? = some (.row [I k] true)
  g : h[cg]? = some (.row [.func (.func 77) #[] #[.pointer (some ⟨cn, 0, none⟩), .pointer (some ⟨cy, 0, none⟩), .pointer (some ⟨ck, 0, none⟩), .pointer (some ⟨cg, 0, none⟩)]] true)
structure Below (B l m cn cy ck cg : Nat) : Prop where
  n : cn < B ∧ cn ≠ l ∧ cn ≠ m
  y : cy < B ∧ cy ≠ l ∧ cy ≠ m
  k : ck < B ∧ ck ≠ l ∧ ck ≠ m
  g : cg < B ∧ cg ≠ l ∧ cg ≠ m
theorem Caps.keep {B l m n k cn cy ck cg : Nat} {h h' : AHeap} (b : Below B l m cn cy ck cg) (c : Caps l n k cn cy ck cg h) (q : Keep B l m h h') : Caps l n k cn cy ck cg h' :=
  ⟨(q.low _ b.n.1 b.n.2.1 b.n.2.2).trans c.n, (q.low _ b.y.1 b.y.2.1 b.y.2.2).trans c.y, (q.low _ b.k.1 b.k.2.1 b.k.2.2).trans c.k, (q.low _ b.g.1 b.g.2.1 b.g.2.2).trans c.g⟩

theorem ti64 : ti Tryd.prog 64 = some ⟨.func #[9] #[4] false, 1, 8, .nilFunc⟩ := by kernel_rfl
theorem letters_size : ∀ k, k ≤ 4 → (gB (lettersL k)).size = k := by
  intro k hk; rw [gB_size]; simp [lettersL, List.length_take]; omega
theorem letters_slice (k : Nat) (hk : k ≤ 4) : aslice Tryd.prog 9 (.string { data := #[97, 98, 99, 100] }) none (some (I k)) none = some (.string (gB (lettersL k))) := by
  rw [show (ByteArray.mk #[97, 98, 99, 100]) = gB [97, 98, 99, 100] from rfl, slice_to _ k (by rw [gB_size]; simpa using hk), gB_extract]
  rfl
theorem letters_get (k i : Nat) (hk : k ≤ 4) (hi : i < k) : ∃ c, (lettersL k)[i]? = some c ∧ c ∈ [(97 : UInt8), 98, 99, 100] ∧ ∀ h, Utf8.decode (gB (lettersL k)) i = (((gB (lettersL k))[i]'h).toNat, 1) ∧ (gB (lettersL k))[i]'h = c := by
  have hl : i < (lettersL k).length := by rw [← gB_size, letters_size k hk]; exact hi
  refine ⟨(lettersL k)[i], List.getElem?_eq_getElem hl, List.mem_of_mem_take (List.getElem_mem hl), fun h => ?_⟩
  have e : (gB (lettersL k))[i]'h = (lettersL k)[i] := rfl
  refine ⟨decode_ascii _ i h ?_, e⟩
  have key : (gB (lettersL k))[i]'h ∈ [(97 : UInt8), 98, 99, 100] := List.mem_of_mem_take (List.getElem_mem hl)
  generalize (gB (lettersL k))[i]'h = z at key
  simp only [List.mem_cons, List.not_mem_nil, or_false] at key
  rcases key with rfl | rfl | rfl | rfl <;> decide
theorem encode_letter {c : UInt8} (hc : c ∈ [(97 : UInt8), 98, 99, 100]) : Utf8.encode (c.toNat : Int) = gB [c] := by
  simp only [List.mem_cons, List.not_mem_nil, or_false] at hc
  rcases hc with rfl | rfl | rfl | rfl <;> decide

variable {X : Ext} {B l m n k cn cy ck cg : Nat} {T : List (List UInt8)} {Iv : List (List UInt8) → AHeap → Prop}

/-- The arguments of the recursive function. -/
abbrev growArgs (cn cy ck cg : Nat) (w : List UInt8) : List Value := [.string (gB w), .pointer (some ⟨cn, 0, none⟩), .pointer (some ⟨cy, 0, none⟩), .pointer (some ⟨ck, 0, none⟩), .pointer (some ⟨cg, 0, none⟩)]

theorem grow_loop (b : Below B l m cn cy ck cg) (hk : k ≤ 4) (d : Nat) (w : List UInt8) (hw : w.length < 1000)
    (rec : ∀ c L R h, c ∈ [(97 : UInt8), 98, 99, 100] → L ++ growL (lettersL k) d (w ++ [c]) ++ R = T → Iv L h → Caps l n k cn cy ck cg h → B ≤ h.length →
      Ca Tryd.prog X (.fn 77) (growArgs cn cy ck cg (w ++ [c])) h (fun v h' => v = .bool true ∧ Iv (L ++ growL (lettersL k) d (w ++ [c])) h' ∧ Keep B l m h h'))
    (Y : Yields X B l m T Iv) (h0 : AHeap) (hB : B ≤ h0.length) (r : Nat) (hr0 : h0.length ≤ r) :
    ∀ (t i : Nat) (L R : List (List UInt8)) (f : Nat → Value) (h : AHeap), i + t = k → L ++ ((lettersL k).drop i).flatMap (fun c => growL (lettersL k) d (w ++ [c])) ++ R = T → Iv L h → Caps l n k cn cy ck cg h → Keep B l m h0 h →
    h[r]? = some (AObj.siter (gB (lettersL k)) i) → Knows f [(0, .string (gB w)), (4, .pointer (some ⟨cg, 0, none⟩)), (18, .pointer (some ⟨r, 0, none⟩))] →
    Fin Tryd.prog X none Tryd.f77.ntmps (lpN Tryd.f77 0) .normal ⟨f, h⟩ (fun e y => (e = .normal ∨ e = .ret) ∧ ∃ v, fresults Tryd.prog Tryd.f77.results.toList y = some v ∧ v = .bool true ∧ Iv (L ++ ((lettersL k).drop i).flatMap (fun c => growL (lettersL k) d (w ++ [c]))) y.h ∧ Keep B l m h0 y.h) := by
  have hsz := letters_size k hk
  have hll : (lettersL k).length = k := by rw [← gB_size]; exact hsz
  intro t
  induction t with
  | zero =>
    intro i L R f h hi hT hI hC hK hr hf
    refine Fin_known _ hf ?_
    refine Fin_unrl ?_
    refine Run 1000 ?_
    refine Nxt r (gB (lettersL k)) i (by kernel_rfl) (by kernel_rfl) hr (fun hlt => by omega) (fun _ => ?_)
    refine Run 1000 ?_
    refine Fin_cB false (by kernel_rfl) ?_
    refine Run 1000 ?_
    refine Fin_r (by kernel_rfl) ⟨Or.inr rfl, .bool true, by kernel_rfl, rfl, ?_, hK⟩
    rw [List.drop_of_length_le (by omega)]; simpa using hI
  | succ t ih =>
    intro i L R f h hi hT hI hC hK hr hf
    obtain ⟨c, hc, hc4, hdec⟩ := letters_get k i hk (by omega)
    have hlt : i < (gB (lettersL k)).size := by omega
    obtain ⟨hd1, hd2⟩ := hdec hlt
    have hrl : r < h.length := lt_of_get hr
    have hdrop : (lettersL k).drop i = c :: (lettersL k).drop (i + 1) := by
      have h1 := List.getElem?_eq_getElem (l := lettersL k) (i := i) (by omega)
      rw [hc] at h1
      rw [List.drop_eq_getElem_cons (by omega : i < (lettersL k).length), ← Option.some.inj h1]
    refine Fin_known _ hf ?_
    refine Fin_unrl ?_
    refine Run 1000 ?_
    refine Nxt r (gB (lettersL k)) i (by kernel_rfl) (by kernel_rfl) hr (fun _ => ?_) (fun hn => absurd hlt hn)
    rw [hd1, hd2]
    refine Run 1000 ?_
    refine Fin_cB true (by kernel_rfl) ?_
    refine Run 1000 ?_
    have K1 : Keep B l m h (h.set r (.siter (gB (lettersL k)) (i + 1))) ∨ True := Or.inr trivial
    have hne : ∀ j, j < B → r ≠ j := by intro j hj; have := hK.len; omega
    have hC1 : Caps l n k cn cy ck cg (h.set r (.siter (gB (lettersL k)) (i + 1))) := by
      refine ⟨?_, ?_, ?_, ?_⟩
      · rw [List.getElem?_set_ne (hne _ b.n.1)]; exact hC.n
      · rw [List.getElem?_set_ne (hne _ b.y.1)]; exact hC.y
      · rw [List.getElem?_set_ne (hne _ b.k.1)]; exact hC.k
      · rw [List.getElem?_set_ne (hne _ b.g.1)]; exact hC.g
    refine Load 64 (.pointer (some ⟨cg, 0, none⟩)) (.func (.func 77) #[] #[.pointer (some ⟨cn, 0, none⟩), .pointer (some ⟨cy, 0, none⟩), .pointer (some ⟨ck, 0, none⟩), .pointer (some ⟨cg, 0, none⟩)]) (by kernel_rfl) (by kernel_rfl) (load_row ti64 rfl hC1.g rfl) ?_
    refine Run 1000 ?_
    refine Bin .add 9 (.string (gB w)) (.string (Utf8.encode (c.toNat : Int))) (.string (gB (w ++ [c]))) (by kernel_rfl) (by kernel_rfl) (by rw [encode_letter hc4]; simp only [abin, astr, gB_append, gB_size, lim, List.length_append, List.length_singleton]; rw [if_pos (by omega)]) ?_
    refine Run 1000 ?_
    have hI1 : Iv L (h.set r (.siter (gB (lettersL k)) (i + 1))) := by
      refine Y.sit L h _ hI ⟨by simp, fun j hj hs => ?_⟩
      have : r ≠ j := by intro e; subst e; exact hs _ _ hr
      rw [List.getElem?_set_ne this]
    have hT1 : L ++ growL (lettersL k) d (w ++ [c]) ++ (((lettersL k).drop (i + 1)).flatMap (fun c => growL (lettersL k) d (w ++ [c])) ++ R) = T := by
      rw [← hT, hdrop, List.flatMap_cons]; simp [List.append_assoc]
    refine Fin_call 77 (growArgs cn cy ck cg (w ++ [c])) (by kernel_rfl) (by kernel_rfl) (rec c L _ _ hc4 hT1 hI1 hC1 (by have := hK.len; simp; omega)) (fun v1 hh1 hv1 => ?_)
    obtain ⟨rfl, hI2, hK2⟩ := hv1
    refine Run 1000 ?_
    refine Fin_cB false (by kernel_rfl) ?_
    refine Run 1000 ?_
    refine Fin_goto (lpN Tryd.f77 0) hh1 [(0, .string (gB w)), (4, .pointer (some ⟨cg, 0, none⟩)), (18, .pointer (some ⟨r, 0, none⟩))] (by kernel_rfl) (by kernel_rfl) (by kernel_rfl) (fun f' hf' => ?_)
    have hr1 : (h.set r (.siter (gB (lettersL k)) (i + 1)))[r]? = some (AObj.siter (gB (lettersL k)) (i + 1)) := List.getElem?_set_self hrl
    have hK3 : Keep B l m h0 (h.set r (.siter (gB (lettersL k)) (i + 1))) := by
      refine ⟨by have := hK.len; simpa using this, fun j hj hjl hjm => ?_, fun j s p hj => ?_⟩
      · rw [List.getElem?_set_ne (hne j hj)]; exact hK.low j hj hjl hjm
      · have : j < h0.length := lt_of_get hj
        rw [List.getElem?_set_ne (by omega)]; exact hK.sit j s p hj
    have := ih (i + 1) (L ++ growL (lettersL k) d (w ++ [c])) R f' hh1 (by omega) (by rw [← hT1]; simp [List.append_assoc]) hI2 (hC1.keep b hK2) (hK3.trans hK2) ((hK2.sit r _ _ hr1).trans hr1) hf'
    rw [hdrop, List.flatMap_cons, ← List.append_assoc]
    exact this

theorem grow_spec (hX : X 77 = none) (b : Below B l m cn cy ck cg) (hk : k ≤ 4) (Y : Yields X B l m T Iv) (hn : n < 1000) :
    ∀ (d : Nat) (w : List UInt8) (L R : List (List UInt8)) (h : AHeap), w.length + d = n → L ++ growL (lettersL k) d w ++ R = T → Iv L h → Caps l n k cn cy ck cg h → B ≤ h.length →
      Ca Tryd.prog X (.fn 77) (growArgs cn cy ck cg w) h (fun v h' => v = .bool true ∧ Iv (L ++ growL (lettersL k) d w) h' ∧ Keep B l m h h') := by
  intro d
  induction d with
  | zero =>
    intro w L R h hd hT hI hC hB
    refine Ca_fn (fn := Tryd.f77) (c := Tryd.f77.body.getD .skip) hX (by kernel_rfl) (by kernel_rfl) (by kernel_rfl) ?_
    refine Run 1000 ?_
    refine Load 3 (.pointer (some ⟨cn, 0, none⟩)) (I n) (by kernel_rfl) (by kernel_rfl) (load_row ti3 rfl hC.n rfl) ?_
    refine Run 1000 ?_
    have hs : ((gB w).size : Int) = n := by rw [gB_size]; omega
    refine Fin_cB (((gB w).size : Int) == n) (by kernel_rfl) ?_
    rw [show (((gB w).size : Int) == n) = true by simpa using hs]
    refine Run 1000 ?_
    refine Load 64 (.pointer (some ⟨cy, 0, none⟩)) (.func (.yield l) #[] #[]) (by kernel_rfl) (by kernel_rfl) (load_row ti64 rfl hC.y rfl) ?_
    refine Run 1000 ?_
    refine Fin_yield l [.string (gB w)] (by kernel_rfl) (by kernel_rfl) (Y.yld L w R h (by rw [← hT]; simp [growL]) hI hB) (fun v h' hv => ?_)
    obtain ⟨rfl, hI2, hK2⟩ := hv
    refine Run 1000 ?_
    exact Fin_r (by kernel_rfl) ⟨Or.inr rfl, .bool true, by kernel_rfl, rfl, hI2, hK2⟩
  | succ d ih =>
    intro w L R h hd hT hI hC hB
    refine Ca_fn (fn := Tryd.f77) (c := Tryd.f77.body.getD .skip) hX (by kernel_rfl) (by kernel_rfl) (by kernel_rfl) ?_
    refine Run 1000 ?_
    refine Load 3 (.pointer (some ⟨cn, 0, none⟩)) (I n) (by kernel_rfl) (by kernel_rfl) (load_row ti3 rfl hC.n rfl) ?_
    refine Run 1000 ?_
    have hs : ¬((gB w).size : Int) = n := by rw [gB_size]; omega
    refine Fin_cB (((gB w).size : Int) == n) (by kernel_rfl) ?_
    rw [show (((gB w).size : Int) == n) = false by simpa using hs]
    refine Run 1000 ?_
    refine Load 3 (.pointer (some ⟨ck, 0, none⟩)) (I k) (by kernel_rfl) (by kernel_rfl) (load_row ti3 rfl hC.k rfl) ?_
    refine Run 1000 ?_
    refine Slic 9 (.string { data := #[97, 98, 99, 100] }) (.string (gB (lettersL k))) none (some (I k)) none (by kernel_rfl) (by kernel_rfl) (letters_slice k hk) ?_
    refine Run 1000 ?_
    refine Rng 9 (gB (lettersL k)) (by kernel_rfl) (by kernel_rfl) Tryd.underlying9 ?_
    refine Run 1000 ?_
    refine Fin_goto (lpN Tryd.f77 0) (h ++ [.siter (gB (lettersL k)) 0]) [(0, .string (gB w)), (4, .pointer (some ⟨cg, 0, none⟩)), (18, .pointer (some ⟨h.length, 0, none⟩))] (by kernel_rfl) (by kernel_rfl) (by kernel_rfl) (fun f' hf' => ?_)
    have hS : Sit h (h ++ [.siter (gB (lettersL k)) 0]) := ⟨by simp, fun j hj _ => List.getElem?_append_left hj⟩
    have hK : Keep B l m h (h ++ [.siter (gB (lettersL k)) 0]) := ⟨by simp, fun j hj _ _ => List.getElem?_append_left (by omega), fun j s p hj => List.getElem?_append_left (lt_of_get hj)⟩
    have := grow_loop (X := X) (n := n) (Iv := Iv) b hk d w (by omega) (fun c L R h hc hT hI hC hB => ih (w ++ [c]) L R h (by simp; omega) hT hI hC hB) Y h hB h.length (Nat.le_refl _) k 0 L R f' (h ++ [.siter (gB (lettersL k)) 0]) (by omega) (by simpa [growL] using hT) (Y.sit _ _ _ hI hS) (hC.keep b hK) hK (by simp) hf'
    simpa [growL] using this
end Go.Proofs.YtpbmpdocgplhpaaDoor
