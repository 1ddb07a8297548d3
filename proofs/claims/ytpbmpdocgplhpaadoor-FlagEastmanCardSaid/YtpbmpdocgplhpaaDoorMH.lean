/-
  MERGED BY PROGRAM out of the texts Tame Open Ord ClashF ClashC.
-/
import Derived.Test.YtpbmpdocgplhpaaDoorMF
import Derived.Test.YtpbmpdocgplhpaaDoorMV
import Derived.Test.YtpbmpdocgplhpaaDoorME
import Derived.Test.YtpbmpdocgplhpaaDoorMD

/-
  The law's tame: a rising code out of any strings, each word once.
-/
set_option linter.unusedSimpArgs false
set_option linter.unusedVariables false
set_option maxRecDepth 100000
namespace Go.Proofs.YtpbmpdocgplhpaaDoor
open Go Go.AM

def tameGo (k n most : Nat) : List ByteArray → List ByteArray → List ByteArray
  | [], out => out
  | s :: L, out => if out.length < most then tameGo k n most L (if (out.any fun x => seq x (gB (ownWord s k n))) = true then out else withS out (gB (ownWord s k n))) else out
theorem withS_length (L : List ByteArray) (s : ByteArray) : (withS L s).length = L.length + 1 := putAt_length _ _ _ (before_le L s)
theorem wrap_next' {i n : Nat} (h : i < n) (hn : n ≤ 9223372036854775807) : IntKind.wrap .i64 ((i : Int) + 1) = ((i + 1 : Nat) : Int) := by
  rw [wrap_small (by omega) (by omega)]; simp
theorem tame_loop {X : Ext} (hX40 : X 40 = none) (hX52 : X 52 = none) (hX57 : X 57 = none) (hX53 : X 53 = none) (h0 : AHeap) (a : Option Addr) (kk : Nat) (L : List ByteArray) (hL : L.length ≤ 9223372036854775807) (hst : Strs h0 a L) (hsz : ∀ s ∈ L, s.size ≤ 9223372036854775807)
    (k n most : Nat) (hk1 : 1 ≤ k) (hk : k ≤ 4) (hn1 : 1 ≤ n) (hn : n ≤ 5) (hm : most ≤ 100) :
    ∀ (t i : Nat) (f : Nat → Value) (h : AHeap) (v : Value) (out : List ByteArray), i + t = L.length → Acc h0 h v out → out.length ≤ most → (out = [] → v = .slice none 0 0) → Knows f [(0, .slice a L.length kk), (1, I k), (2, I n), (3, I most), (9, v), (10, I i)] →
    Fin Tryd.prog X none Tryd.f23.ntmps (lpN Tryd.f23 0) .normal ⟨f, h⟩ (fun e y => (e = .normal ∨ e = .ret) ∧ ∃ v, fresults Tryd.prog Tryd.f23.results.toList y = some v ∧ Acc h0 y.h v (tameGo k n most (L.drop i) out) ∧ (tameGo k n most (L.drop i) out = [] → v = .slice none 0 0)) := by
  intro t
  induction t with
  | zero =>
    intro i f h v out hi A ho hnil hf
    refine Fin_known _ hf ?_
    refine Fin_unrl ?_
    refine Run 1000 ?_
    refine Fin_g ((i : Int) < L.length) (by kernel_rfl) (by kernel_rfl) (fun h1 => by omega) (fun h1 => ?_)
    refine Run 1000 ?_
    refine Fin_cB false (by kernel_rfl) ?_
    refine Run 1000 ?_
    refine Fin_r (by kernel_rfl) ⟨Or.inr rfl, v, by kernel_rfl, ?_⟩
    rw [List.drop_of_length_le (by omega)]; exact ⟨A, hnil⟩
  | succ t ih =>
    intro i f h v out hi A ho hnil hf
    have hlt : i < L.length := by omega
    obtain ⟨b, o, rfl, _⟩ := hst.at hlt
    obtain ⟨s, es⟩ : ∃ s, s = L[i] := ⟨_, rfl⟩
    have hss : s.size ≤ 9223372036854775807 := by rw [es]; exact hsz _ (List.getElem_mem hlt)
    have hdrop : L.drop i = s :: L.drop (i + 1) := by rw [es]; exact List.drop_eq_getElem_cons hlt
    have hnext : IntKind.wrap .i64 ((i : Int) + 1) = ((i + 1 : Nat) : Int) := wrap_next' (n := L.length) hlt hL
    obtain ⟨w, ew⟩ : ∃ w, w = gB (ownWord s k n) := ⟨_, rfl⟩
    obtain ⟨a9, k9, rfl, hso⟩ := A.as_strs
    rw [hdrop]
    simp only [tameGo, ← ew]
    refine Fin_known _ hf ?_
    refine Fin_unrl ?_
    refine Run 1000 ?_
    refine Fin_g ((i : Int) < L.length) (by kernel_rfl) (by kernel_rfl) (fun h1 => ?_) (fun h1 => by omega)
    refine Run 1000 ?_
    refine Fin_c ((out.length : Int) < most) (by kernel_rfl) (fun h2 => ?_) (fun h2 => ?_)
    · rw [if_pos (by omega)]
      refine Run 1000 ?_
      refine IdxA 22 b o 1 L.length kk .i64 i (by kernel_rfl) (by kernel_rfl) ti22 rfl ti9 rfl (by omega) (by omega) ?_
      refine Run 1000 ?_
      refine Load 9 (.pointer (some ⟨b, o + (i : Int).toNat * 1, none⟩)) (.string s) (by kernel_rfl) (by kernel_rfl) (by
        obtain ⟨b2, o2, cs, own, e, hb, hc⟩ := (hst.grow A.grew).2 i hlt
        simp only [Option.some.injEq, Addr.mk.injEq, and_true] at e
        obtain ⟨rfl, rfl⟩ := e
        rw [es]; exact load_row ti9 rfl hb (by simpa using hc)) ?_
      refine Run 1000 ?_
      refine Fin_call 40 [.string s, I k, I n] (by kernel_rfl) (by kernel_rfl) (ow_spec hX40 s hss k n hk1 hk hn1 (by omega) h) (fun v7 hh7 hv7 => ?_)
      obtain ⟨rfl, G7⟩ := hv7
      rw [← ew]
      refine Run 1000 ?_
      refine Fin_call 52 [.slice a9 out.length k9, .string w] (by kernel_rfl) (by kernel_rfl) (Has_spec hX52 hX57 hh7 a9 k9 out w (by omega) (hso.grow G7)) (fun v8 hh8 hv8 => ?_)
      obtain ⟨rfl, rfl⟩ := hv8
      refine Run 1000 ?_
      refine Fin_c2 (!(out.any fun x => seq x w)) (by kernel_rfl) (fun hb => ?_) (fun hb => ?_)
      · have hb' : (out.any fun x => seq x w) = false := by simpa using hb
        rw [hb', if_neg (by decide)]
        refine Run 1000 ?_
        refine Fin_call 53 [.slice a9 out.length k9, .string w] (by kernel_rfl) (by kernel_rfl) (with_spec hX53 hh8 a9 k9 out w (by omega) (hso.grow G7)) (fun v10 hh10 A10 => ?_)
        refine Run 1000 ?_
        refine Fin_goto (lpN Tryd.f23 0) hh10 [(0, .slice (some ⟨b, o, some 1⟩) L.length kk), (1, I k), (2, I n), (3, I most), (9, v10), (10, I (IntKind.wrap .i64 ((i : Int) + 1)))] (by kernel_rfl) (by kernel_rfl) (by kernel_rfl) (fun f' hf' => ?_)
        rw [hnext] at hf'
        exact ih (i + 1) f' hh10 v10 _ (by omega) (A10.trans (A.grew.trans G7)) (by rw [withS_length]; omega) (fun e => by have := withS_length out w; rw [e] at this; simp at this) hf'
      · have hb' : (out.any fun x => seq x w) = true := by simpa using hb
        rw [hb', if_pos rfl]
        refine Run 1000 ?_
        refine Fin_goto (lpN Tryd.f23 0) hh8 [(0, .slice (some ⟨b, o, some 1⟩) L.length kk), (1, I k), (2, I n), (3, I most), (9, .slice a9 out.length k9), (10, I (IntKind.wrap .i64 ((i : Int) + 1)))] (by kernel_rfl) (by kernel_rfl) (by kernel_rfl) (fun f' hf' => ?_)
        rw [hnext] at hf'
        exact ih (i + 1) f' hh8 _ _ (by omega) (A.more G7) ho hnil hf'
    · rw [if_neg (by omega)]
      refine Run 1000 ?_
      exact Fin_r (by kernel_rfl) ⟨Or.inr rfl, .slice a9 out.length k9, by kernel_rfl, A, hnil⟩
theorem tame_specN {X : Ext} (hX : X 23 = none) (hX40 : X 40 = none) (hX52 : X 52 = none) (hX57 : X 57 = none) (hX53 : X 53 = none) (h : AHeap) (a : Option Addr) (kk : Nat) (L : List ByteArray) (hL : L.length ≤ 9223372036854775807) (hst : Strs h a L) (hsz : ∀ s ∈ L, s.size ≤ 9223372036854775807)
    (k n most : Nat) (hk1 : 1 ≤ k) (hk : k ≤ 4) (hn1 : 1 ≤ n) (hn : n ≤ 5) (hm : most ≤ 100) :
    Ca Tryd.prog X (.fn 23) [.slice a L.length kk, I k, I n, I most] h (fun v h' => Acc h h' v (tameGo k n most L []) ∧ (tameGo k n most L [] = [] → v = .slice none 0 0)) := by
  refine Ca_fn (fn := Tryd.f23) (c := Tryd.f23.body.getD .skip) hX (by kernel_rfl) (by kernel_rfl) (by kernel_rfl) ?_
  refine Run 1000 ?_
  refine Fin_goto (lpN Tryd.f23 0) h [(0, .slice a L.length kk), (1, I k), (2, I n), (3, I most), (9, .slice none 0 0), (10, I (0 : Nat))] (by kernel_rfl) (by kernel_rfl) (by kernel_rfl) (fun f' hf' => ?_)
  have := tame_loop (X := X) hX40 hX52 hX57 hX53 h a kk L hL hst hsz k n most hk1 hk hn1 hn hm L.length 0 f' h _ [] (by omega) (Acc.nil h) (by simp) (fun _ => rfl) hf'
  simpa using this
theorem tame_spec {X : Ext} (hX : X 23 = none) (hX40 : X 40 = none) (hX52 : X 52 = none) (hX57 : X 57 = none) (hX53 : X 53 = none) (h : AHeap) (a : Option Addr) (kk : Nat) (L : List ByteArray) (hL : L.length ≤ 9223372036854775807) (hst : Strs h a L) (hsz : ∀ s ∈ L, s.size ≤ 9223372036854775807)
    (k n most : Nat) (hk1 : 1 ≤ k) (hk : k ≤ 4) (hn1 : 1 ≤ n) (hn : n ≤ 5) (hm : most ≤ 100) :
    Ca Tryd.prog X (.fn 23) [.slice a L.length kk, I k, I n, I most] h (fun v h' => Acc h h' v (tameGo k n most L [])) :=
  (tame_specN hX hX40 hX52 hX57 hX53 h a kk L hL hst hsz k n most hk1 hk hn1 hn hm).imp fun v h' q => q.1
end Go.Proofs.YtpbmpdocgplhpaaDoor

/-
  flag.open: whether numbers and a code are in order.
-/
set_option linter.unusedSimpArgs false
set_option linter.unusedVariables false
set_option maxRecDepth 100000
namespace Go.Proofs.YtpbmpdocgplhpaaDoor
open Go Go.AM

def prevOK : Option ByteArray → ByteArray → Bool
  | none, _ => true
  | some q, w => ltS q w
def cod (b : Bool) : Int := bif b then 0 else 60
def codeGo (k n : Nat) : Option ByteArray → List ByteArray → Bool
  | _, [] => true
  | p, w :: L => decide (w.size = n) && overF k w && prevOK p w && codeGo k n (some w) L
def codeF (k n : Nat) (L : List ByteArray) : Bool := codeGo k n none L
/-- The item before a place. -/
def prevOf (L : List ByteArray) (i : Nat) : Option ByteArray := if i = 0 then none else L[i - 1]?

theorem open_loop {X : Ext} (x : OverX X) (h0 : AHeap) (a : Option Addr) (kk : Nat) (L : List ByteArray) (hL : L.length < 9223372036854775807) (hst : Strs h0 a L) (k n : Nat) (hk : k ≤ 4) (hn : n ≤ 5) :
    ∀ (t i : Nat) (f : Nat → Value) (h : AHeap), i + t = L.length → Grew h0 h → Knows f [(0, I k), (1, I n), (2, .slice a L.length kk), (23, .slice a L.length kk), (24, I L.length), (25, I i)] →
    Fin Tryd.prog X none Tryd.f49.ntmps (lpN Tryd.f49 0) .normal ⟨f, h⟩ (fun e y => (e = .normal ∨ e = .ret) ∧ ∃ v, fresults Tryd.prog Tryd.f49.results.toList y = some v ∧ v = I (cod (codeGo k n (prevOf L i) (L.drop i))) ∧ Grew h0 y.h) := by
  intro t
  induction t with
  | zero =>
    intro i f h hi hG hf
    refine Fin_known _ hf ?_
    refine Fin_unrl ?_
    refine Run 1000 ?_
    refine Fin_c ((i : Int) < L.length) (by kernel_rfl) (fun h1 => by omega) (fun h1 => ?_)
    refine Run 1000 ?_
    refine Fin_r (by kernel_rfl) ⟨Or.inr rfl, I 0, by kernel_rfl, ?_, hG⟩
    rw [List.drop_of_length_le (by omega)]; rfl
  | succ t ih =>
    intro i f h hi hG hf
    have hlt : i < L.length := by omega
    obtain ⟨b, o, rfl, _⟩ := hst.at hlt
    obtain ⟨w, ew⟩ : ∃ w, w = L[i] := ⟨_, rfl⟩
    have hdrop : L.drop i = w :: L.drop (i + 1) := by rw [ew]; exact List.drop_eq_getElem_cons hlt
    have hnext : IntKind.wrap .i64 ((i : Int) + 1) = ((i + 1 : Nat) : Int) := wrap_next (n := L.length) hlt hL
    have hprev : prevOf L (i + 1) = some w := by
      unfold prevOf
      rw [if_neg (by omega), Nat.add_sub_cancel, List.getElem?_eq_getElem hlt, ew]
    have hld : ∀ {g : AHeap} {j : Nat} (hj : j < L.length) {off : Nat}, Grew h0 g → off = o + j → aload Tryd.prog g 9 (.pointer (some ⟨b, off, none⟩)) = some (.string L[j]) := by
      intro g j hj off hg ho
      obtain ⟨b2, o2, cs, own, e, hb, hc⟩ := (hst.grow hg).2 j hj
      simp only [Option.some.injEq, Addr.mk.injEq, and_true] at e
      obtain ⟨rfl, rfl⟩ := e
      subst ho
      exact load_row ti9 rfl hb hc
    rw [hdrop]
    simp only [codeGo]
    refine Fin_known _ hf ?_
    refine Fin_unrl ?_
    refine Run 1000 ?_
    refine Fin_c ((i : Int) < L.length) (by kernel_rfl) (fun h1 => ?_) (fun h1 => by omega)
    refine Run 1000 ?_
    refine IdxA 22 b o 1 L.length kk .i64 i (by kernel_rfl) (by kernel_rfl) ti22 rfl ti9 rfl (by omega) (by omega) ?_
    refine Run 1000 ?_
    refine Load 9 (.pointer (some ⟨b, o + (i : Int).toNat * 1, none⟩)) (.string w) (by kernel_rfl) (by kernel_rfl) (by rw [ew]; exact hld hlt hG (by simp)) ?_
    refine Run 1000 ?_
    refine Fin_g2 (!((w.size : Int) == n)) (by kernel_rfl) (by kernel_rfl) (fun hb => ?_) (fun hb => ?_)
    · have hne : ¬w.size = n := by intro e; simp [e] at hb
      refine RunA 1000 10 ?_
      refine Fin_r (by kernel_rfl) ⟨Or.inr rfl, I 60, by kernel_rfl, ?_, hG⟩
      rw [decide_eq_false hne]; rfl
    · have he0 : (w.size : Int) = n := by simpa using hb
      have he : w.size = n := by omega
      rw [decide_eq_true he, Bool.true_and]
      refine Run 1000 ?_
      refine Fin_call 72 [I k, .string w] (by kernel_rfl) (by kernel_rfl) (over_spec x k hk w (by omega) h) (fun v10 hh10 hv10 => ?_)
      obtain ⟨rfl, G10⟩ := hv10
      cases ho : overF k w with
      | false =>
        refine RunA 1000 10 ?_
        exact Fin_r (by kernel_rfl) ⟨Or.inr rfl, I 60, by kernel_rfl, rfl, hG.trans G10⟩
      | true =>
        rw [Bool.true_and]
        refine RunA 1000 1 ?_
        refine Fin_g ((i : Int) > 0) (by kernel_rfl) (by kernel_rfl) (fun h3 => ?_) (fun h3 => ?_)
        · have hlt1 : i - 1 < L.length := by omega
          have hw1 : IntKind.wrap .i64 ((i : Int) - 1) = ((i - 1 : Nat) : Int) := wrap_pred (by omega) (by omega)
          have hp : prevOf L i = some L[i - 1] := by
            unfold prevOf; rw [if_neg (by omega), List.getElem?_eq_getElem hlt1]
          rw [hp]
          simp only [prevOK]
          refine Run 1000 ?_
          refine IdxA 22 b o 1 L.length kk .i64 (IntKind.wrap .i64 ((i : Int) - 1)) (by kernel_rfl) (by kernel_rfl) ti22 rfl ti9 rfl (by omega) (by omega) ?_
          refine Run 1000 ?_
          refine Load 9 (.pointer (some ⟨b, o + (IntKind.wrap .i64 ((i : Int) - 1)).toNat * 1, none⟩)) (.string L[i - 1]) (by kernel_rfl) (by kernel_rfl) (hld hlt1 (hG.trans G10) (by rw [hw1]; simp)) ?_
          refine Run 1000 ?_
          refine Fin_c2 (!(ltS L[i - 1] w)) (by kernel_rfl) (fun hb2 => ?_) (fun hb2 => ?_)
          · have hf0 : ltS L[i - 1] w = false := by simpa using hb2
            refine Run 1000 ?_
            refine Fin_r (by kernel_rfl) ⟨Or.inr rfl, I 60, by kernel_rfl, ?_, hG.trans G10⟩
            simp only [hf0]; rfl
          · have hf0 : ltS L[i - 1] w = true := by simpa using hb2
            refine Run 1000 ?_
            refine Fin_goto (lpN Tryd.f49 0) hh10 [(0, I k), (1, I n), (2, .slice (some ⟨b, o, some 1⟩) L.length kk), (23, .slice (some ⟨b, o, some 1⟩) L.length kk), (24, I L.length), (25, I (IntKind.wrap .i64 ((i : Int) + 1)))] (by kernel_rfl) (by kernel_rfl) (by kernel_rfl) (fun f' hf' => ?_)
            rw [hnext] at hf'
            have := ih (i + 1) f' hh10 (by omega) (hG.trans G10) hf'
            rw [hprev] at this
            simpa only [hf0, Bool.true_and] using this
        · obtain rfl : i = 0 := by omega
          have hp : prevOf L 0 = none := rfl
          rw [hp]
          simp only [prevOK]
          refine RunA 1000 10 ?_
          refine Fin_goto (lpN Tryd.f49 0) hh10 [(0, I k), (1, I n), (2, .slice (some ⟨b, o, some 1⟩) L.length kk), (23, .slice (some ⟨b, o, some 1⟩) L.length kk), (24, I L.length), (25, I (IntKind.wrap .i64 (((0 : Nat) : Int) + 1)))] (by kernel_rfl) (by kernel_rfl) (by kernel_rfl) (fun f' hf' => ?_)
          rw [hnext] at hf'
          have := ih (0 + 1) f' hh10 (by omega) (hG.trans G10) hf'
          rw [hprev] at this
          simpa only [Bool.true_and] using this
/-- What 'open' answers. -/
def openF (k n : Int) (L : List ByteArray) : Int := if inRange k n = true then cod (codeF k.toNat n.toNat L) else 1
theorem open_spec {X : Ext} (hX : X 49 = none) (x : OverX X) (k n : Int) (h : AHeap) (a : Option Addr) (kk : Nat) (L : List ByteArray) (hL : L.length < 9223372036854775807) (hst : Strs h a L) :
    Ca Tryd.prog X (.fn 49) [I k, I n, .slice a L.length kk] h (fun v h' => v = I (openF k n L) ∧ Grew h h') := by
  have no : ¬(1 ≤ k ∧ k ≤ 4 ∧ 1 ≤ n ∧ n ≤ 5) → I 1 = I (openF k n L) := by
    intro hh; unfold openF; rw [if_neg (fun h => hh (inRange_iff.1 h))]
  refine Ca_fn (fn := Tryd.f49) (c := Tryd.f49.body.getD .skip) hX (by kernel_rfl) (by kernel_rfl) (by kernel_rfl) ?_
  refine Run 1000 ?_
  refine Fin_g (k < 1) (by kernel_rfl) (by kernel_rfl) (fun h1 => ?_) (fun h1 => ?_)
  · refine RunA 1000 10 ?_
    exact Fin_r (by kernel_rfl) ⟨Or.inr rfl, (I 1), by kernel_rfl, no (by omega), Grew.refl h⟩
  · refine Run 1000 ?_
    refine Fin_g (k > 4) (by kernel_rfl) (by kernel_rfl) (fun h2 => ?_) (fun h2 => ?_)
    · refine RunA 1000 10 ?_
      exact Fin_r (by kernel_rfl) ⟨Or.inr rfl, (I 1), by kernel_rfl, no (by omega), Grew.refl h⟩
    · refine Run 1000 ?_
      refine Fin_g (n < 1) (by kernel_rfl) (by kernel_rfl) (fun h3 => ?_) (fun h3 => ?_)
      · refine RunA 1000 10 ?_
        exact Fin_r (by kernel_rfl) ⟨Or.inr rfl, (I 1), by kernel_rfl, no (by omega), Grew.refl h⟩
      · refine Run 1000 ?_
        refine Fin_c (n > 5) (by kernel_rfl) (fun h4 => ?_) (fun h4 => ?_)
        · refine Run 1000 ?_
          exact Fin_r (by kernel_rfl) ⟨Or.inr rfl, (I 1), by kernel_rfl, no (by omega), Grew.refl h⟩
        · obtain ⟨k', rfl⟩ : ∃ k' : Nat, k = k' := ⟨k.toNat, by omega⟩
          obtain ⟨n', rfl⟩ : ∃ n' : Nat, n = n' := ⟨n.toNat, by omega⟩
          refine Run 1000 ?_
          refine Fin_goto (lpN Tryd.f49 0) h [(0, I k'), (1, I n'), (2, .slice a L.length kk), (23, .slice a L.length kk), (24, I L.length), (25, I (0 : Nat))] (by kernel_rfl) (by kernel_rfl) (by kernel_rfl) (fun f' hf' => ?_)
          have := open_loop (X := X) x h a kk L hL hst k' n' (by omega) (by omega) L.length 0 f' h (by omega) (Grew.refl h) hf'
          unfold openF
          rw [if_pos (inRange_iff.2 (by omega))]
          exact this
end Go.Proofs.YtpbmpdocgplhpaaDoor

/-
  The order of strings; rising codes; tame codes are in order.
-/
set_option linter.unusedSimpArgs false
set_option linter.unusedVariables false
set_option maxRecDepth 100000
namespace Go.Proofs.YtpbmpdocgplhpaaDoor
open Go Go.AM

theorem bl_irrefl : ∀ a : List UInt8, Op.bytesLess a a = false := by
  intro a
  induction a with
  | nil => rfl
  | cons x a ih => simp [Op.bytesLess, ih]
theorem bl_trans : ∀ a b c : List UInt8, Op.bytesLess a b = true → Op.bytesLess b c = true → Op.bytesLess a c = true := by
  intro a
  induction a with
  | nil =>
    intro b c h1 h2
    cases c with
    | nil => cases b <;> simp [Op.bytesLess] at h2
    | cons z c => simp [Op.bytesLess]
  | cons x a ih =>
    intro b c h1 h2
    cases b with
    | nil => simp [Op.bytesLess] at h1
    | cons y b =>
      cases c with
      | nil => simp [Op.bytesLess] at h2
      | cons z c =>
        simp only [Op.bytesLess, Bool.or_eq_true, Bool.and_eq_true, decide_eq_true_eq, beq_iff_eq] at h1 h2 ⊢
        rcases h1 with h1 | ⟨rfl, h1⟩
        · rcases h2 with h2 | ⟨rfl, h2⟩
          · exact Or.inl (UInt8.lt_trans h1 h2)
          · exact Or.inl h1
        · rcases h2 with h2 | ⟨rfl, h2⟩
          · exact Or.inl h2
          · exact Or.inr ⟨rfl, ih b c h1 h2⟩
theorem bl_total : ∀ a b : List UInt8, Op.bytesLess a b = false → a ≠ b → Op.bytesLess b a = true := by
  intro a
  induction a with
  | nil =>
    intro b h1 h2
    cases b with
    | nil => exact absurd rfl h2
    | cons y b => simp [Op.bytesLess] at h1
  | cons x a ih =>
    intro b h1 h2
    cases b with
    | nil => simp [Op.bytesLess]
    | cons y b =>
      simp only [Op.bytesLess, Bool.or_eq_false_iff, Bool.and_eq_false_iff, decide_eq_false_iff_not, beq_eq_false_iff_ne] at h1
      simp only [Op.bytesLess, Bool.or_eq_true, Bool.and_eq_true, decide_eq_true_eq, beq_iff_eq]
      obtain ⟨h3, h4⟩ := h1
      by_cases e : x = y
      · subst e
        refine Or.inr ⟨rfl, ih b ?_ (fun e => h2 (by rw [e]))⟩
        rcases h4 with h4 | h4
        · exact absurd rfl h4
        · exact h4
      · left
        rw [UInt8.lt_iff_toNat_lt] at h3 ⊢
        have : x.toNat ≠ y.toNat := fun h => e (UInt8.toNat_inj.1 h)
        omega
theorem list_inj {a b : ByteArray} (h : a.data.toList = b.data.toList) : a = b := by rw [← gB_of a, ← gB_of b, h]
theorem lt_trans {a b c : ByteArray} (h1 : ltS a b = true) (h2 : ltS b c = true) : ltS a c = true := bl_trans _ _ _ h1 h2
theorem lt_total {a b : ByteArray} (h1 : ltS a b = false) (h2 : a ≠ b) : ltS b a = true := bl_total _ _ h1 (fun e => h2 (list_inj e))
theorem lt_irrefl (a : ByteArray) : ltS a a = false := bl_irrefl _
theorem seq_iff {a b : ByteArray} : seq a b = true ↔ a = b := by
  unfold seq; rw [beq_iff_eq]; exact ⟨list_inj, fun h => by rw [h]⟩

def Rising (L : List ByteArray) : Prop := L.Pairwise fun a b => ltS a b = true
theorem withS_parts (L : List ByteArray) (s : ByteArray) : withS L s = (L.takeWhile fun x => ltS x s) ++ [s] ++ (L.dropWhile fun x => ltS x s) := by
  have h := List.takeWhile_append_dropWhile (p := fun x => ltS x s) (l := L)
  unfold withS putAt before
  have e1 := List.take_left (l₁ := L.takeWhile fun x => ltS x s) (l₂ := L.dropWhile fun x => ltS x s)
  have e2 := List.drop_left (l₁ := L.takeWhile fun x => ltS x s) (l₂ := L.dropWhile fun x => ltS x s)
  rw [h] at e1 e2
  rw [e1, e2]
theorem mem_withS {L : List ByteArray} {s x : ByteArray} : x ∈ withS L s ↔ x ∈ L ∨ x = s := by
  rw [withS_parts]
  have h := List.takeWhile_append_dropWhile (p := fun x => ltS x s) (l := L)
  constructor
  · intro hx
    simp only [List.mem_append, List.mem_singleton] at hx
    rcases hx with (hx | hx) | hx
    · exact Or.inl (by have := List.mem_append_left (L.dropWhile fun x => ltS x s) hx; rwa [h] at this)
    · exact Or.inr hx
    · exact Or.inl (by have := List.mem_append_right (L.takeWhile fun x => ltS x s) hx; rwa [h] at this)
  · intro hx
    simp only [List.mem_append, List.mem_singleton]
    rcases hx with hx | hx
    · rw [← h, List.mem_append] at hx
      rcases hx with hx | hx
      · exact Or.inl (Or.inl hx)
      · exact Or.inr hx
    · exact Or.inl (Or.inr hx)
theorem withS_rising {L : List ByteArray} {s : ByteArray} (hR : Rising L) (hs : s ∉ L) : Rising (withS L s) := by
  rw [withS_parts]
  have h := List.takeWhile_append_dropWhile (p := fun x => ltS x s) (l := L)
  have hl : ∀ x ∈ L.takeWhile fun x => ltS x s, ltS x s = true := by
    intro x hx
    have := List.all_takeWhile (p := fun x => ltS x s) (l := L)
    exact List.all_eq_true.1 this x hx
  unfold Rising at hR ⊢
  rw [← h, List.pairwise_append] at hR
  obtain ⟨r1, r2, r3⟩ := hR
  have hg : ∀ y ∈ L.dropWhile fun x => ltS x s, ltS s y = true := by
    intro y hy
    cases hd : L.dropWhile fun x => ltS x s with
    | nil => rw [hd] at hy; simp at hy
    | cons z r =>
      have hz : ltS z s = false := by
        have := List.head_dropWhile_not (p := fun x => ltS x s) (l := L) (by rw [hd]; simp)
        simpa [hd] using this
      have hzs : z ≠ s := by
        intro e
        apply hs
        rw [← h, hd, ← e]; simp
      have hsz := lt_total hz hzs
      rw [hd] at hy r2
      rcases List.mem_cons.1 hy with rfl | hy
      · exact hsz
      · exact lt_trans hsz ((List.pairwise_cons.1 r2).1 y hy)
  rw [List.pairwise_append, List.pairwise_append]
  refine ⟨⟨r1, by simp, fun x hx y hy => ?_⟩, r2, fun x hx y hy => ?_⟩
  · simp only [List.mem_singleton] at hy; subst hy; exact hl x hx
  · rcases List.mem_append.1 hx with hx | hx
    · exact r3 x hx y hy
    · simp only [List.mem_singleton] at hx; subst hx; exact hg y hy
theorem code_of {k n : Nat} : ∀ {L : List ByteArray} {p : Option ByteArray}, (∀ w ∈ L, w.size = n ∧ overF k w = true) → Rising L → (∀ q, p = some q → ∀ w ∈ L, ltS q w = true) → codeGo k n p L = true := by
  intro L
  induction L with
  | nil => intro p _ _ _; rfl
  | cons a L ih =>
    intro p h1 h2 h3
    obtain ⟨r1, r2⟩ := List.pairwise_cons.1 h2
    obtain ⟨a1, a2⟩ := h1 a (by simp)
    have hp : prevOK p a = true := by
      cases p with
      | none => rfl
      | some q => exact h3 q rfl a (by simp)
    simp only [codeGo, hp, a2, decide_eq_true a1, Bool.and_true, Bool.true_and]
    exact ih (fun w hw => h1 w (by simp [hw])) r2 (fun q hq w hw => by simp only [Option.some.injEq] at hq; subst hq; exact r1 w hw)

theorem own_size (s : ByteArray) (k n : Nat) : (gB (ownWord s k n)).size = n := by rw [gB_size]; simp [ownWord]
theorem own_over (s : ByteArray) {k : Nat} (hk1 : 1 ≤ k) (hk : k ≤ 4) (n : Nat) : overF k (gB (ownWord s k n)) = true := by
  unfold overF
  rw [gB_list, List.all_eq_true]
  intro c hc
  simp only [ownWord, List.mem_map] at hc
  obtain ⟨i, _, rfl⟩ := hc
  rw [List.contains_iff_mem]; exact ownLetter_mem s hk1 hk i
/-- Tame codes are in order. -/
theorem tame_ok {k n most : Nat} (hk1 : 1 ≤ k) (hk : k ≤ 4) : ∀ (L out : List ByteArray), (∀ w ∈ out, w.size = n ∧ overF k w = true) → Rising out → (out.length ≤ most) →
    (∀ w ∈ tameGo k n most L out, w.size = n ∧ overF k w = true) ∧ Rising (tameGo k n most L out) ∧ (tameGo k n most L out).length ≤ most := by
  intro L
  induction L with
  | nil => intro out h1 h2 h3; exact ⟨h1, h2, h3⟩
  | cons s L ih =>
    intro out h1 h2 h3
    simp only [tameGo]
    split
    · rename_i hlt
      split
      · exact ih out h1 h2 h3
      · rename_i hno
        refine ih _ (fun w hw => ?_) (withS_rising h2 ?_) (by rw [withS_length]; omega)
        · rcases mem_withS.1 hw with hw | rfl
          · exact h1 w hw
          · exact ⟨own_size _ _ _, own_over s hk1 hk n⟩
        · intro hm
          apply hno
          rw [List.any_eq_true]
          exact ⟨_, hm, seq_iff.2 rfl⟩
    · exact ⟨h1, h2, h3⟩
theorem tame_code {k n most : Nat} (hk1 : 1 ≤ k) (hk : k ≤ 4) (L : List ByteArray) : codeF k n (tameGo k n most L []) = true := by
  obtain ⟨h1, h2, _⟩ := tame_ok (n := n) (most := most) hk1 hk L [] (by simp) List.Pairwise.nil (by simp)
  exact code_of h1 h2 (fun q hq => by simp at hq)
end Go.Proofs.YtpbmpdocgplhpaaDoor

/-
  flag.clashOf: a clash of a code, or none.
-/
set_option linter.unusedSimpArgs false
set_option linter.unusedVariables false
set_option maxRecDepth 100000
namespace Go.Proofs.YtpbmpdocgplhpaaDoor
open Go Go.AM

/-! ### The map from words to their places -/
theorem beqB (a b : ByteArray) : (a == b) = decide (a = b) := by
  cases a with
  | mk x => cases b with
    | mk y =>
      show (x == y) = _
      simp only [ByteArray.mk.injEq]
      by_cases h : x = y <;> simp [h]
def mUpd (w : ByteArray) (i : Nat) : List (ByteArray × Nat) → List (ByteArray × Nat)
  | [] => [(w, i)]
  | p :: r => if (w == p.1) = true then (p.1, i) :: r else p :: mUpd w i r
def mFind (w : ByteArray) : List (ByteArray × Nat) → Option Nat
  | [] => none
  | p :: r => if (w == p.1) = true then some p.2 else mFind w r
def mapV (M : List (ByteArray × Nat)) : List (Value × Value) := M.map fun p => (.string p.1, I p.2)
theorem aupd_mapV (w : ByteArray) (i : Nat) : ∀ M, aupd .string (.string w) (I i) (mapV M) = some (mapV (mUpd w i M)) := by
  intro M
  induction M with
  | nil => rfl
  | cons p r ih =>
    simp only [mapV, List.map_cons, aupd, Instr.sameNow, mUpd] at ih ⊢
    cases h : (w == p.1) with
    | true => simp
    | false => simp [ih]
theorem afind_mapV (w : ByteArray) : ∀ M, afind .string (.string w) (mapV M) = some ((mFind w M).map fun j => I j) := by
  intro M
  induction M with
  | nil => rfl
  | cons p r ih =>
    simp only [mapV, List.map_cons, afind, Instr.sameNow, mFind] at ih ⊢
    cases h : (w == p.1) with
    | true => simp
    | false => simp [ih]
theorem mFind_upd (w x : ByteArray) (i : Nat) : ∀ M, mFind x (mUpd w i M) = if x = w then some i else mFind x M := by
  intro M
  induction M with
  | nil => simp only [mUpd, mFind, beqB]; by_cases h : x = w <;> simp [h]
  | cons p r ih =>
    simp only [mUpd, beqB, decide_eq_true_eq]
    by_cases hw : w = p.1
    · subst hw
      simp only [if_true, mFind, beqB, decide_eq_true_eq]
      by_cases h : x = p.1 <;> simp [h]
    · simp only [hw, if_false, mFind, ih, beqB, decide_eq_true_eq]
      by_cases h : x = p.1
      · subst h
        have : ¬p.1 = w := fun e => hw e.symm
        simp [this]
      · simp [h]
/-- The map tells of the first i words. -/
def MOK (L : List ByteArray) (i : Nat) (M : List (ByteArray × Nat)) : Prop := ∀ w, (∀ j, mFind w M = some j → j < i ∧ L[j]? = some w) ∧ (mFind w M = none → ∀ j, j < i → L[j]? ≠ some w)
theorem MOK.nil (L : List ByteArray) : MOK L 0 [] := fun w => ⟨fun j h => by simp [mFind] at h, fun _ j h => by omega⟩
theorem MOK.step {L : List ByteArray} {i : Nat} {M : List (ByteArray × Nat)} {w : ByteArray} (m : MOK L i M) (hw : L[i]? = some w) : MOK L (i + 1) (mUpd w i M) := by
  intro x
  rw [mFind_upd]
  by_cases h : x = w
  · subst h
    rw [if_pos rfl]
    refine ⟨fun j hj => ?_, fun h => by simp at h⟩
    simp only [Option.some.injEq] at hj; subst hj; exact ⟨by omega, hw⟩
  · rw [if_neg h]
    refine ⟨fun j hj => ?_, fun hn j hj => ?_⟩
    · have := (m x).1 j hj; exact ⟨by omega, this.2⟩
    · by_cases e : j = i
      · subst e; rw [hw]; intro e; simp only [Option.some.injEq] at e; exact h e.symm
      · exact (m x).2 hn j (by omega)

def clWin (u v : ByteArray) (a : Nat) : ByteArray := (u ++ v).extract a (a + u.size)
/-- What clashOf tells of a code. -/
def ClashR (L : List ByteArray) : Option (Nat × Nat × Nat) → Prop
  | none => ∀ (i j a : Nat) (u v : ByteArray), L[i]? = some u → L[j]? = some v → 1 ≤ a → a < u.size → clWin u v a ∉ L
  | some (i, j, w) => ∃ u v x a, L[i]? = some u ∧ L[j]? = some v ∧ L[w]? = some x ∧ 1 ≤ a ∧ a < u.size ∧ x = clWin u v a
def clV : Option (Nat × Nat × Nat) → Value
  | none => .agg #[I (-1), I (-1), I (-1)]
  | some (i, j, w) => .agg #[I i, I j, I w]

noncomputable def d81 : TypeDesc := (Tryd.prog.underlying 81).getD .string
theorem ti81 : ∃ d, ti Tryd.prog 81 = some ⟨d, 3, 24, .agg #[I 0, I 0, I 0]⟩ ∧ TI.isAgg ⟨d, 3, 24, .agg #[I 0, I 0, I 0]⟩ = true := ⟨d81, by kernel_rfl, by kernel_rfl⟩
theorem load81 {h : AHeap} {b : Nat} {own : Bool} {x y z : Value} (hb : h[b]? = some (.row [x, y, z] own)) : aload Tryd.prog h 81 (.pointer (some ⟨b, 0, none⟩)) = some (.agg #[x, y, z]) := by
  obtain ⟨d, h1, h2⟩ := ti81
  simp [aload, h1, h2, loadN, cells?, hb]
theorem store81 {h : AHeap} {b : Nat} {x y z x' y' z' : Int} (hb : h[b]? = some (.row [I x', I y', I z'] true)) : astore Tryd.prog h 81 (.pointer (some ⟨b, 0, none⟩)) (.agg #[I x, I y, I z]) = some (h.set b (.row [I x, I y, I z] true)) := by
  obtain ⟨d, h1, _⟩ := ti81
  simp [astore, h1, storeN, hb, Value.cells, isData, isCell, splice]
def noneRow : AObj := .row [I (-1), I (-1), I (-1)] false

def ClQ (h : AHeap) (L : List ByteArray) (e : AExit) (y : FS) : Prop :=
  (e = .normal ∨ e = .ret) ∧ ∃ v, fresults Tryd.prog Tryd.f59.results.toList y = some v ∧ (∃ res, v = clV res ∧ ClashR L res) ∧ Grew h y.h
/-- The heap of the search. -/
def clH (h : AHeap) (M : List (ByteArray × Nat)) : AHeap := h ++ [.row [I 0, I 0, I 0] true, .amap (mapV M), .row [I (-1), I (-1), I (-1)] true]
theorem clH_grew (h : AHeap) (M : List (ByteArray × Nat)) : Grew h (clH h M) := ⟨_, rfl⟩
theorem clH0 (h : AHeap) (M : List (ByteArray × Nat)) : (clH h M)[h.length]? = some (.row [I 0, I 0, I 0] true) := by unfold clH; rw [List.getElem?_append_right (Nat.le_refl _)]; simp
theorem clH1 (h : AHeap) (M : List (ByteArray × Nat)) : (clH h M)[h.length + 1]? = some (.amap (mapV M)) := by unfold clH; rw [List.getElem?_append_right (by omega)]; simp
theorem clH2 (h : AHeap) (M : List (ByteArray × Nat)) : (clH h M)[h.length + 2]? = some (.row [I (-1), I (-1), I (-1)] true) := by unfold clH; rw [List.getElem?_append_right (by omega)]; simp
theorem look_map (h : AHeap) (M : List (ByteArray × Nat)) (w : ByteArray) : alookup Tryd.prog (clH h M) 95 (.map (some (h.length + 1))) (.string w) true = some (match mFind w M with | some j => .tuple #[I j, .bool true] | none => .tuple #[I 0, .bool false]) := by
  have hk : mapKind Tryd.prog 95 = some (.string, 3) := by kernel_rfl
  simp only [alookup, hk, mapEs, clH1, afind_mapV, ti3]
  cases mFind w M <;> rfl
theorem slice_both (s : ByteArray) (i j : Nat) (h1 : i ≤ j) (h2 : j ≤ s.size) : aslice Tryd.prog 9 (.string s) (some (I i)) (some (I j)) none = some (.string (s.extract i j)) := by
  simp only [aslice, ti9, abound, asIdx]
  rw [if_pos ⟨by omega, by omega⟩]
  simp only [Int.toNat_natCast]
  rw [if_pos ⟨by omega, by omega⟩]

section
variable {X : Ext} (h : AHeap) (a : Option Addr) (kk : Nat) (L : List ByteArray) (n : Nat) (M : List (ByteArray × Nat))
abbrev clSl (h : AHeap) (a : Option Addr) (kk : Nat) (L : List ByteArray) (i : Nat) : List (Nat × Value) :=
  [(2, .pointer (some ⟨h.length, 0, none⟩)), (3, .map (some (h.length + 1))), (6, .pointer (some ⟨h.length + 2, 0, none⟩)), (0, .slice a L.length kk), (27, .slice a L.length kk), (28, I L.length), (29, I i)]

set_option maxHeartbeats 1000000 in
theorem cl_at (hn : n ≤ 1000) (hm : MOK L L.length M) (i j : Nat) (hi : i < 1000000) (hj : j < L.length) (hL : L.length < 1000000) (u v : ByteArray) (hu : L[i]? = some u) (hv : L[j]? = some v) (su : u.size = n) (sv : v.size = n)
    (K : (∀ a, 1 ≤ a → a < n → clWin u v a ∉ L) → ∀ f', Knows f' (clSl h a kk L i ++ [(7, I i), (8, .string u), (34, .slice a L.length kk), (35, I L.length), (36, I (j + 1 : Nat))]) → Fin Tryd.prog X none Tryd.f59.ntmps (lpN Tryd.f59 2) .normal ⟨f', clH h M⟩ (ClQ h L)) :
    ∀ (t p : Nat) (f : Nat → Value), p + t = n → 1 ≤ p → (∀ a, 1 ≤ a → a < p → clWin u v a ∉ L) → Knows f (clSl h a kk L i ++ [(7, I i), (8, .string u), (34, .slice a L.length kk), (35, I L.length), (36, I j), (9, I j), (10, .string v), (11, I p)]) →
    Fin Tryd.prog X none Tryd.f59.ntmps (lpN Tryd.f59 3) .normal ⟨f, clH h M⟩ (ClQ h L) := by
  intro t
  induction t with
  | zero =>
    intro p f hp h1 hall hf
    obtain rfl : p = n := by omega
    refine Fin_known _ hf ?_
    refine Fin_unrl ?_
    refine Run 1000 ?_
    refine Fin_c ((p : Int) < u.size) (by kernel_rfl) (fun h1 => by omega) (fun h1 => ?_)
    refine Run 1000 ?_
    refine Fin_goto (lpN Tryd.f59 2) (clH h M) (clSl h a kk L i ++ [(7, I i), (8, .string u), (34, .slice a L.length kk), (35, I L.length), (36, I (IntKind.wrap .i64 ((j : Int) + 1)))]) (by kernel_rfl) rfl (by kernel_rfl) (fun f' hf' => ?_)
    rw [wrap_next hj (by omega)] at hf'
    exact K hall f' hf'
  | succ t ih =>
    intro p f hp hp1 hall hf
    have hw : IntKind.wrap .i64 ((p : Int) + u.size) = ((p + u.size : Nat) : Int) := by rw [wrap_small (by omega) (by omega)]; simp
    have hsz : (u ++ v).size = n + n := by rw [ByteArray.size_append]; omega
    refine Fin_known _ hf ?_
    refine Fin_unrl ?_
    refine Run 1000 ?_
    refine Fin_c ((p : Int) < u.size) (by kernel_rfl) (fun h1 => ?_) (fun h1 => by omega)
    refine Run 1000 ?_
    refine Bin .add 9 (.string u) (.string v) (.string (u ++ v)) (by kernel_rfl) (by kernel_rfl) (add_str _ _ (by omega)) ?_
    refine Run 1000 ?_
    refine Slic 9 (.string (u ++ v)) (.string (clWin u v p)) (some (I p)) (some (I (IntKind.wrap .i64 ((p : Int) + u.size)))) none (by kernel_rfl) (by kernel_rfl) (by rw [hw]; exact slice_both _ _ _ (by omega) (by omega)) ?_
    refine Run 1000 ?_
    refine MLook 95 (.map (some (h.length + 1))) (.string (clWin u v p)) _ true (by kernel_rfl) (by kernel_rfl) (look_map h M _) ?_
    cases hq : mFind (clWin u v p) M with
    | some w =>
      obtain ⟨hw1, hw2⟩ := (hm _).1 w hq
      refine Run 1000 ?_
      refine Fin_cB true (by kernel_rfl) ?_
      refine Run 1000 ?_
      refine PureV (.agg #[I i, I j, I w]) (by kernel_rfl) (by kernel_rfl) (by kernel_rfl) ?_
      refine Run 1000 ?_
      refine Store 81 (.pointer (some ⟨h.length + 2, 0, none⟩)) (.agg #[I i, I j, I w]) _ (by kernel_rfl) (by kernel_rfl) (store81 (clH2 h M)) ?_
      refine Run 1000 ?_
      have e2 : ((clH h M).set (h.length + 2) (.row [I i, I j, I w] true))[h.length + 2]? = some (.row [I i, I j, I w] true) := List.getElem?_set_self (lt_of_get (clH2 h M))
      have e0 : ((clH h M).set (h.length + 2) (.row [I i, I j, I w] true))[h.length]? = some (.row [I 0, I 0, I 0] true) := by rw [List.getElem?_set_ne (by omega)]; exact clH0 h M
      refine Load 81 (.pointer (some ⟨h.length + 2, 0, none⟩)) (.agg #[I i, I j, I w]) (by kernel_rfl) (by kernel_rfl) (load81 e2) ?_
      refine Run 1000 ?_
      refine Store 81 (.pointer (some ⟨h.length, 0, none⟩)) (.agg #[I i, I j, I w]) _ (by kernel_rfl) (by kernel_rfl) (store81 e0) ?_
      refine Run 1000 ?_
      refine Fin_r (by kernel_rfl) ⟨Or.inr rfl, .agg #[I i, I j, I w], fresults_cell (a := 2) (ty := 81) (by kernel_rfl) ?_, ⟨some (i, j, w), rfl, u, v, clWin u v p, p, hu, hv, hw2, hp1, by omega, rfl⟩, ?_⟩
      · have e3 := load81 (b := h.length) (own := true) (h := ((clH h M).set (h.length + 2) (.row [I i, I j, I w] true)).set h.length (.row [I i, I j, I w] true)) (List.getElem?_set_self (lt_of_get e0))
        exact Eq.trans (by kernel_rfl) e3
      · exact ((clH_grew h M).set (by omega) _).set (Nat.le_refl _) _
    | none =>
      have hno : clWin u v p ∉ L := by
        intro hm2
        obtain ⟨q, hq1, hq2⟩ := List.getElem_of_mem hm2
        exact (hm _).2 hq q hq1 (by rw [List.getElem?_eq_getElem hq1, hq2])
      refine Run 1000 ?_
      refine Fin_cB false (by kernel_rfl) ?_
      refine Run 1000 ?_
      refine Fin_goto (lpN Tryd.f59 3) (clH h M) (clSl h a kk L i ++ [(7, I i), (8, .string u), (34, .slice a L.length kk), (35, I L.length), (36, I j), (9, I j), (10, .string v), (11, I (IntKind.wrap .i64 ((p : Int) + 1)))]) (by kernel_rfl) rfl (by kernel_rfl) (fun f' hf' => ?_)
      rw [wrap_next (n := n) (by omega) (by omega)] at hf'
      refine ih (p + 1) f' (by omega) (by omega) (fun a ha1 ha2 => ?_) hf'
      by_cases e : a = p
      · subst e; exact hno
      · exact hall a ha1 (by omega)

set_option maxHeartbeats 1000000 in
theorem cl_j (hst : Strs h a L) (hs : ∀ w ∈ L, w.size = n) (hn : n ≤ 1000) (hm : MOK L L.length M) (hL : L.length < 1000000) (i : Nat) (hi : i < L.length) (u : ByteArray) (hu : L[i]? = some u)
    (K : (∀ (j a : Nat) (v : ByteArray), L[j]? = some v → 1 ≤ a → a < u.size → clWin u v a ∉ L) → ∀ f', Knows f' (clSl h a kk L (i + 1)) → Fin Tryd.prog X none Tryd.f59.ntmps (lpN Tryd.f59 1) .normal ⟨f', clH h M⟩ (ClQ h L)) :
    ∀ (t j : Nat) (f : Nat → Value), j + t = L.length → (∀ (j' a : Nat) (v : ByteArray), j' < j → L[j']? = some v → 1 ≤ a → a < u.size → clWin u v a ∉ L) → Knows f (clSl h a kk L i ++ [(7, I i), (8, .string u), (34, .slice a L.length kk), (35, I L.length), (36, I j)]) →
    Fin Tryd.prog X none Tryd.f59.ntmps (lpN Tryd.f59 2) .normal ⟨f, clH h M⟩ (ClQ h L) := by
  have su : u.size = n := hs u (List.mem_of_getElem? hu)
  intro t
  induction t with
  | zero =>
    intro j f hj hall hf
    obtain rfl : j = L.length := by omega
    refine Fin_known _ hf ?_
    refine Fin_unrl ?_
    refine Run 1000 ?_
    refine Fin_c ((L.length : Int) < L.length) (by kernel_rfl) (fun h1 => by omega) (fun h1 => ?_)
    refine Run 1000 ?_
    refine Fin_goto (lpN Tryd.f59 1) (clH h M) ([(2, .pointer (some ⟨h.length, 0, none⟩)), (3, .map (some (h.length + 1))), (6, .pointer (some ⟨h.length + 2, 0, none⟩)), (0, .slice a L.length kk), (27, .slice a L.length kk), (28, I L.length), (29, I (IntKind.wrap .i64 ((i : Int) + 1)))]) (by kernel_rfl) rfl (by kernel_rfl) (fun f' hf' => ?_)
    rw [wrap_next hi (by omega)] at hf'
    refine K (fun j a v hv => ?_) f' hf'
    have hjl : j < L.length := by
      by_cases hh : j < L.length
      · exact hh
      · rw [List.getElem?_eq_none (by omega)] at hv; simp at hv
    exact hall j a v hjl hv
  | succ t ih =>
    intro j f hj hall hf
    have hlt : j < L.length := by omega
    obtain ⟨v, ev⟩ : ∃ v, v = L[j] := ⟨_, rfl⟩
    have hv : L[j]? = some v := by rw [ev]; exact List.getElem?_eq_getElem hlt
    have sv : v.size = n := hs v (List.mem_of_getElem? hv)
    obtain ⟨b, o, ea, _⟩ := hst.at hlt
    subst ea
    have hld := (hst.grow (clH_grew h M)).load9 hlt rfl (off := o + (j : Int).toNat * 1) (by simp)
    rw [← ev] at hld
    refine Fin_known _ hf ?_
    refine Fin_unrl ?_
    refine Run 1000 ?_
    refine Fin_c ((j : Int) < L.length) (by kernel_rfl) (fun h1 => ?_) (fun h1 => by omega)
    refine Run 1000 ?_
    refine IdxA 22 b o 1 L.length kk .i64 j (by kernel_rfl) (by kernel_rfl) ti22 rfl ti9 rfl (by omega) (by omega) ?_
    refine Run 1000 ?_
    refine Load 9 (.pointer (some ⟨b, o + (j : Int).toNat * 1, none⟩)) (.string v) (by kernel_rfl) (by kernel_rfl) hld ?_
    refine Run 1000 ?_
    refine Fin_goto (lpN Tryd.f59 3) (clH h M) (clSl h (some ⟨b, o, some 1⟩) kk L i ++ [(7, I i), (8, .string u), (34, .slice (some ⟨b, o, some 1⟩) L.length kk), (35, I L.length), (36, I j), (9, I j), (10, .string v), (11, I (1 : Nat))]) (by kernel_rfl) rfl (by kernel_rfl) (fun f' hf' => ?_)
    by_cases h0 : 1 ≤ n
    · refine cl_at h (some ⟨b, o, some 1⟩) kk L n M hn hm i j (by omega) hlt hL u v hu hv su sv (fun hw f2 hf2 => ?_) (n - 1) 1 f' (by omega) (Nat.le_refl 1) (fun a h1 h2 => by omega) hf'
      refine ih (j + 1) f2 (by omega) (fun j' a v' hj' hv' ha1 ha2 => ?_) hf2
      by_cases e : j' = j
      · subst e
        rw [hv] at hv'
        simp only [Option.some.injEq] at hv'; subst hv'
        exact hw a ha1 (by omega)
      · exact hall j' a v' (by omega) hv' ha1 ha2
    · refine Fin_known _ hf' ?_
      refine Fin_unrl ?_
      refine Run 1000 ?_
      refine Fin_c (((1 : Nat) : Int) < u.size) (by kernel_rfl) (fun h1 => by omega) (fun h1 => ?_)
      refine Run 1000 ?_
      refine Fin_goto (lpN Tryd.f59 2) (clH h M) (clSl h (some ⟨b, o, some 1⟩) kk L i ++ [(7, I i), (8, .string u), (34, .slice (some ⟨b, o, some 1⟩) L.length kk), (35, I L.length), (36, I (IntKind.wrap .i64 ((j : Int) + 1)))]) (by kernel_rfl) rfl (by kernel_rfl) (fun f2 hf2 => ?_)
      rw [wrap_next hlt (by omega)] at hf2
      exact ih (j + 1) f2 (by omega) (fun j' a v' _ _ ha1 ha2 => by omega) hf2
set_option maxHeartbeats 1000000 in
theorem cl_i (hst : Strs h a L) (hs : ∀ w ∈ L, w.size = n) (hn : n ≤ 1000) (hm : MOK L L.length M) (hL : L.length < 1000000) :
    ∀ (t i : Nat) (f : Nat → Value), i + t = L.length → (∀ (i' j a : Nat) (u v : ByteArray), i' < i → L[i']? = some u → L[j]? = some v → 1 ≤ a → a < u.size → clWin u v a ∉ L) → Knows f (clSl h a kk L i) →
    Fin Tryd.prog X none Tryd.f59.ntmps (lpN Tryd.f59 1) .normal ⟨f, clH h M⟩ (ClQ h L) := by
  intro t
  induction t with
  | zero =>
    intro i f hi hall hf
    obtain rfl : i = L.length := by omega
    refine Fin_known _ hf ?_
    refine Fin_unrl ?_
    refine Run 1000 ?_
    refine Fin_c ((L.length : Int) < L.length) (by kernel_rfl) (fun h1 => by omega) (fun h1 => ?_)
    refine Run 1000 ?_
    refine Load 81 (.pointer (some ⟨h.length + 2, 0, none⟩)) (.agg #[I (-1), I (-1), I (-1)]) (by kernel_rfl) (by kernel_rfl) (load81 (clH2 h M)) ?_
    refine Run 1000 ?_
    refine Store 81 (.pointer (some ⟨h.length, 0, none⟩)) (.agg #[I (-1), I (-1), I (-1)]) _ (by kernel_rfl) (by kernel_rfl) (store81 (clH0 h M)) ?_
    refine Run 1000 ?_
    refine Fin_r (by kernel_rfl) ⟨Or.inr rfl, .agg #[I (-1), I (-1), I (-1)], fresults_cell (a := 2) (ty := 81) (by kernel_rfl) ?_, ⟨none, rfl, ?_⟩, ?_⟩
    · have e3 := load81 (b := h.length) (own := true) (h := (clH h M).set h.length (.row [I (-1), I (-1), I (-1)] true)) (List.getElem?_set_self (lt_of_get (clH0 h M)))
      exact Eq.trans (by kernel_rfl) e3
    · intro i j a u v hu hv h1 h2
      have hil : i < L.length := by
        by_cases hh : i < L.length
        · exact hh
        · rw [List.getElem?_eq_none (by omega)] at hu; simp at hu
      exact hall i j a u v hil hu hv h1 h2
    · exact (clH_grew h M).set (Nat.le_refl _) _
  | succ t ih =>
    intro i f hi hall hf
    have hlt : i < L.length := by omega
    obtain ⟨u, eu⟩ : ∃ u, u = L[i] := ⟨_, rfl⟩
    have hu : L[i]? = some u := by rw [eu]; exact List.getElem?_eq_getElem hlt
    obtain ⟨b, o, ea, _⟩ := hst.at hlt
    subst ea
    have hld := (hst.grow (clH_grew h M)).load9 hlt rfl (off := o + (i : Int).toNat * 1) (by simp)
    rw [← eu] at hld
    refine Fin_known _ hf ?_
    refine Fin_unrl ?_
    refine Run 1000 ?_
    refine Fin_c ((i : Int) < L.length) (by kernel_rfl) (fun h1 => ?_) (fun h1 => by omega)
    refine Run 1000 ?_
    refine IdxA 22 b o 1 L.length kk .i64 i (by kernel_rfl) (by kernel_rfl) ti22 rfl ti9 rfl (by omega) (by omega) ?_
    refine Run 1000 ?_
    refine Load 9 (.pointer (some ⟨b, o + (i : Int).toNat * 1, none⟩)) (.string u) (by kernel_rfl) (by kernel_rfl) hld ?_
    refine Run 1000 ?_
    refine Fin_goto (lpN Tryd.f59 2) (clH h M) (clSl h (some ⟨b, o, some 1⟩) kk L i ++ [(7, I i), (8, .string u), (34, .slice (some ⟨b, o, some 1⟩) L.length kk), (35, I L.length), (36, I (0 : Nat))]) (by kernel_rfl) rfl (by kernel_rfl) (fun f' hf' => ?_)
    refine cl_j h (some ⟨b, o, some 1⟩) kk L n M hst hs hn hm hL i hlt u hu (fun hw f2 hf2 => ?_) L.length 0 f' (by omega) (fun j' a v' hj' => by omega) hf'
    refine ih (i + 1) f2 (by omega) (fun i' j a u' v' hi' hu' hv' ha1 ha2 => ?_) hf2
    by_cases e : i' = i
    · subst e
      rw [hu] at hu'
      simp only [Option.some.injEq] at hu'; subst hu'
      exact hw j a v' hv' ha1 ha2
    · exact hall i' j a u' v' (by omega) hu' hv' ha1 ha2
/-- The heap while the map is filled. -/
def clG (h : AHeap) (M : List (ByteArray × Nat)) : AHeap := h ++ [.row [I 0, I 0, I 0] true, .amap (mapV M)]
theorem clG_grew (h : AHeap) (M : List (ByteArray × Nat)) : Grew h (clG h M) := ⟨_, rfl⟩
theorem upd_map (h : AHeap) (M : List (ByteArray × Nat)) (w : ByteArray) (i : Nat) : amapUpd Tryd.prog (clG h M) 95 (.map (some (h.length + 1))) (.string w) (I i) = some (clG h (mUpd w i M)) := by
  have hk : mapKind Tryd.prog 95 = some (.string, 3) := by kernel_rfl
  have h1 : (clG h M)[h.length + 1]? = some (.amap (mapV M)) := by unfold clG; rw [List.getElem?_append_right (by omega)]; simp
  simp only [amapUpd, hk, h1, aupd_mapV]
  congr 1
  unfold clG
  rw [List.set_append_right _ _ (by omega)]
  simp
set_option maxHeartbeats 1000000 in
theorem cl_m (hst : Strs h a L) (h0 : h[0]? = some noneRow) (hL : L.length < 1000000)
    (K : ∀ M f', MOK L L.length M → Knows f' (clSl h a kk L 0) → Fin Tryd.prog X none Tryd.f59.ntmps (lpN Tryd.f59 1) .normal ⟨f', clH h M⟩ (ClQ h L)) :
    ∀ (t i : Nat) (f : Nat → Value) (M : List (ByteArray × Nat)), i + t = L.length → MOK L i M → Knows f [(2, .pointer (some ⟨h.length, 0, none⟩)), (3, .map (some (h.length + 1))), (0, .slice a L.length kk), (15, .slice a L.length kk), (16, I L.length), (17, I i)] →
    Fin Tryd.prog X none Tryd.f59.ntmps (lpN Tryd.f59 0) .normal ⟨f, clG h M⟩ (ClQ h L) := by
  intro t
  induction t with
  | zero =>
    intro i f M hi hm hf
    obtain rfl : i = L.length := by omega
    have hn0 : (clG h M)[0]? = some noneRow := (clG_grew h M).at h0
    refine Fin_known _ hf ?_
    refine Fin_unrl ?_
    refine Run 1000 ?_
    refine Fin_c ((L.length : Int) < L.length) (by kernel_rfl) (fun h1 => by omega) (fun h1 => ?_)
    refine Run 1000 ?_
    refine Load 81 (.pointer (some ⟨0, 0, none⟩)) (.agg #[I (-1), I (-1), I (-1)]) (by kernel_rfl) (by kernel_rfl) (load81 hn0) ?_
    refine Run 1000 ?_
    obtain ⟨d, hd1, hd2⟩ := ti81
    have hlen : (clG h M).length = h.length + 2 := by simp [clG]
    refine Alloc 81 (by kernel_rfl) (by kernel_rfl) hd1 rfl ?_
    refine Run 1000 ?_
    refine Store 81 (.pointer (some ⟨(clG h M).length, 0, none⟩)) (.agg #[I (-1), I (-1), I (-1)]) (clH h M) (by kernel_rfl) (by kernel_rfl) ?_ ?_
    · have : (clG h M ++ [AObj.row [I 0, I 0, I 0] true])[(clG h M).length]? = some (.row [I 0, I 0, I 0] true) := by rw [List.getElem?_append_right (Nat.le_refl _)]; simp
      have e := store81 (x := -1) (y := -1) (z := -1) this
      refine Eq.trans e ?_
      congr 1
      rw [List.set_append_right _ _ (Nat.le_refl _)]
      simp [clG, clH]
    refine Run 1000 ?_
    refine Fin_goto (lpN Tryd.f59 1) (clH h M) ([(2, .pointer (some ⟨h.length, 0, none⟩)), (3, .map (some (h.length + 1))), (6, .pointer (some ⟨(clG h M).length, 0, none⟩)), (0, .slice a L.length kk), (27, .slice a L.length kk), (28, I L.length), (29, I (0 : Nat))]) (by kernel_rfl) rfl (by kernel_rfl) (fun f' hf' => ?_)
    rw [hlen] at hf'
    exact K M f' hm hf'
  | succ t ih =>
    intro i f M hi hm hf
    have hlt : i < L.length := by omega
    obtain ⟨w, ew⟩ : ∃ w, w = L[i] := ⟨_, rfl⟩
    have hw : L[i]? = some w := by rw [ew]; exact List.getElem?_eq_getElem hlt
    obtain ⟨b, o, ea, _⟩ := hst.at hlt
    subst ea
    have hld := (hst.grow (clG_grew h M)).load9 hlt rfl (off := o + (i : Int).toNat * 1) (by simp)
    rw [← ew] at hld
    refine Fin_known _ hf ?_
    refine Fin_unrl ?_
    refine Run 1000 ?_
    refine Fin_c ((i : Int) < L.length) (by kernel_rfl) (fun h1 => ?_) (fun h1 => by omega)
    refine Run 1000 ?_
    refine IdxA 22 b o 1 L.length kk .i64 i (by kernel_rfl) (by kernel_rfl) ti22 rfl ti9 rfl (by omega) (by omega) ?_
    refine Run 1000 ?_
    refine Load 9 (.pointer (some ⟨b, o + (i : Int).toNat * 1, none⟩)) (.string w) (by kernel_rfl) (by kernel_rfl) hld ?_
    refine Run 1000 ?_
    refine MUpd 95 (.map (some (h.length + 1))) (.string w) (I i) _ (by kernel_rfl) (by kernel_rfl) (upd_map h M w i) ?_
    refine Run 1000 ?_
    refine Fin_goto (lpN Tryd.f59 0) (clG h (mUpd w i M)) ([(2, .pointer (some ⟨h.length, 0, none⟩)), (3, .map (some (h.length + 1))), (0, .slice (some ⟨b, o, some 1⟩) L.length kk), (15, .slice (some ⟨b, o, some 1⟩) L.length kk), (16, I L.length), (17, I (IntKind.wrap .i64 ((i : Int) + 1)))]) (by kernel_rfl) rfl (by kernel_rfl) (fun f' hf' => ?_)
    rw [wrap_next hlt (by omega)] at hf'
    exact ih (i + 1) f' _ (by omega) (hm.step hw) hf'
end
theorem clash_spec {X : Ext} (hX : X 59 = none) (h : AHeap) (a : Option Addr) (kk : Nat) (L : List ByteArray) (n : Nat) (hst : Strs h a L) (hs : ∀ w ∈ L, w.size = n) (hn : n ≤ 1000) (h0 : h[0]? = some noneRow) (hL : L.length < 1000000) :
    Ca Tryd.prog X (.fn 59) [.slice a L.length kk] h (fun v h' => (∃ res, v = clV res ∧ ClashR L res) ∧ Grew h h') := by
  refine Ca_fn (fn := Tryd.f59) (c := Tryd.f59.body.getD .skip) hX (by kernel_rfl) (by kernel_rfl) (by kernel_rfl) ?_
  refine Run 1000 ?_
  obtain ⟨d, hd1, hd2⟩ := ti81
  refine Alloc 81 (by kernel_rfl) (by kernel_rfl) hd1 rfl ?_
  refine Run 1000 ?_
  refine MMap 95 (by kernel_rfl) (by kernel_rfl) ?_
  refine Run 1000 ?_
  have hlen : (h ++ [AObj.row (Value.agg #[I 0, I 0, I 0]).cells.toList true]).length = h.length + 1 := by simp
  have hheap : h ++ [AObj.row (Value.agg #[I 0, I 0, I 0]).cells.toList true] ++ [.amap []] = clG h [] := by
    unfold clG; simp [Value.cells, mapV]
  refine Fin_goto (lpN Tryd.f59 0) (clG h []) ([(2, .pointer (some ⟨h.length, 0, none⟩)), (3, .map (some (h ++ [AObj.row (Value.agg #[I 0, I 0, I 0]).cells.toList true]).length)), (0, .slice a L.length kk), (15, .slice a L.length kk), (16, I L.length), (17, I (0 : Nat))]) (by kernel_rfl) hheap (by kernel_rfl) (fun f' hf' => ?_)
  rw [hlen] at hf'
  exact cl_m h a kk L hst h0 hL (fun M f2 hm hf2 => cl_i h a kk L n M hst hs hn hm hL L.length 0 f2 (by omega) (fun i' j a u v hi' => by omega) hf2) L.length 0 f' [] (by omega) (MOK.nil L) hf'
end Go.Proofs.YtpbmpdocgplhpaaDoor

/-
  flag.Clash.
-/
set_option linter.unusedSimpArgs false
set_option linter.unusedVariables false
set_option maxRecDepth 100000
namespace Go.Proofs.YtpbmpdocgplhpaaDoor
open Go Go.AM

noncomputable def d56 : TypeDesc := (Tryd.prog.underlying 56).getD .string
theorem ti56 : ∃ d, ti Tryd.prog 56 = some ⟨d, 3, 24, .agg #[I 0, I 0, I 0]⟩ ∧ TI.isAgg ⟨d, 3, 24, .agg #[I 0, I 0, I 0]⟩ = true := ⟨d56, by kernel_rfl, by kernel_rfl⟩
theorem load56 {h : AHeap} {b : Nat} {own : Bool} {x y z : Value} (hb : h[b]? = some (.row [x, y, z] own)) : aload Tryd.prog h 56 (.pointer (some ⟨b, 0, none⟩)) = some (.agg #[x, y, z]) := by
  obtain ⟨d, h1, h2⟩ := ti56
  simp [aload, h1, h2, loadN, cells?, hb]
theorem store56 {h : AHeap} {b : Nat} {x y z x' y' z' : Int} (hb : h[b]? = some (.row [I x', I y', I z'] true)) : astore Tryd.prog h 56 (.pointer (some ⟨b, 0, none⟩)) (.agg #[I x, I y, I z]) = some (h.set b (.row [I x, I y, I z] true)) := by
  obtain ⟨d, h1, _⟩ := ti56
  simp [astore, h1, storeN, hb, Value.cells, isData, isCell, splice]
theorem fresults_cell3 {P : Program} {rs : List ResultVar} {a b c : Tmp} {ty : TypeId} {y : FS} {v : Value} (hr : rs = [.cell a ty, .tmp b, .tmp c]) (hv : aload P y.h ty (y.f a) = some v) : fresults P rs y = some (.tuple #[v, y.f b, y.f c]) := by
  subst hr
  simp only [fresults, fresultsL, fresult, hv]
def trio : Option (Nat × Nat × Nat) → Value
  | none => .agg #[I 0, I 0, I 0]
  | some (i, j, w) => .agg #[I i, I j, I w]

theorem codeGo_size {k n : Nat} : ∀ {L : List ByteArray} {p : Option ByteArray}, codeGo k n p L = true → ∀ w ∈ L, w.size = n ∧ overF k w = true := by
  intro L
  induction L with
  | nil => intro p _ w hw; simp at hw
  | cons a L ih =>
    intro p h w hw
    simp only [codeGo, Bool.and_eq_true, decide_eq_true_iff] at h
    obtain ⟨⟨⟨h1, h2⟩, h3⟩, h4⟩ := h
    rcases List.mem_cons.1 hw with rfl | hw
    · exact ⟨h1, h2⟩
    · exact ih h4 w hw

/-- What 'Clash' tells of a code in order. -/
theorem Clash_spec {X : Ext} (hX : X 33 = none) (hX49 : X 49 = none) (hX59 : X 59 = none) (x : OverX X) (k n : Nat) (hin : inRange k n = true) (h : AHeap) (a : Option Addr) (kk : Nat) (L : List ByteArray) (hL : L.length < 1000000) (hst : Strs h a L) (hc : codeF k n L = true) (h0 : h[0]? = some noneRow) :
    Ca Tryd.prog X (.fn 33) [I k, I n, .slice a L.length kk] h (fun v h' => (∃ res, v = .tuple #[trio res, .bool res.isSome, I 0] ∧ ClashR L res) ∧ Grew h h') := by
  have hopen : openF k n L = 0 := by
    unfold openF
    rw [if_pos hin]
    simp only [Int.toNat_natCast, hc, cod]
    rfl
  have hsz : ∀ w ∈ L, w.size = n := fun w hw => (codeGo_size hc w hw).1
  obtain ⟨i1, i2, i3, i4⟩ := inRange_iff.1 hin
  obtain ⟨d6, hd6, _⟩ := ti56
  obtain ⟨d8, hd8, _⟩ := ti81
  refine Ca_fn (fn := Tryd.f33) (c := Tryd.f33.body.getD .skip) hX (by kernel_rfl) (by kernel_rfl) (by kernel_rfl) ?_
  refine Run 1000 ?_
  refine Alloc 56 (by kernel_rfl) (by kernel_rfl) hd6 rfl ?_
  refine Run 1000 ?_
  have G1 : Grew h (h ++ [AObj.row (Value.agg #[I 0, I 0, I 0]).cells.toList true]) := ⟨_, rfl⟩
  have r1 : (h ++ [AObj.row (Value.agg #[I 0, I 0, I 0]).cells.toList true])[h.length]? = some (.row [I 0, I 0, I 0] true) := by rw [List.getElem?_append_right (Nat.le_refl _)]; simp [Value.cells]
  refine Fin_call 49 [I k, I n, .slice a L.length kk] (by kernel_rfl) (by kernel_rfl) (open_spec hX49 x k n _ a kk L (by omega) (hst.grow G1)) (fun v2 hh2 hv2 => ?_)
  obtain ⟨rfl, G2⟩ := hv2
  rw [hopen]
  have r2 := G2.at r1
  refine RunA 1000 3 ?_
  refine Fin_call 59 [.slice a L.length kk] (by kernel_rfl) (by kernel_rfl) (clash_spec hX59 hh2 a kk L n (hst.grow (G1.trans G2)) hsz (by omega) ((G1.trans G2).at h0) hL) (fun v6 hh6 hv6 => ?_)
  obtain ⟨⟨res, rfl, hR⟩, G6⟩ := hv6
  have r6 := G6.at r2
  have z6 : hh6[0]? = some noneRow := (G1.trans (G2.trans G6)).at h0
  refine Run 1000 ?_
  refine Alloc 81 (by kernel_rfl) (by kernel_rfl) hd8 rfl ?_
  refine Run 1000 ?_
  have G7 : Grew hh6 (hh6 ++ [AObj.row (Value.agg #[I 0, I 0, I 0]).cells.toList true]) := ⟨_, rfl⟩
  have r7 : (hh6 ++ [AObj.row (Value.agg #[I 0, I 0, I 0]).cells.toList true])[hh6.length]? = some (.row [I 0, I 0, I 0] true) := by rw [List.getElem?_append_right (Nat.le_refl _)]; simp [Value.cells]
  have hlt : h.length < hh6.length := lt_of_get r6
  have h0lt : 0 < hh6.length := lt_of_get z6
  cases res with
  | none =>
    obtain ⟨hh8, e8⟩ : ∃ g, g = (hh6 ++ [AObj.row (Value.agg #[I 0, I 0, I 0]).cells.toList true]).set hh6.length (.row [I (-1), I (-1), I (-1)] true) := ⟨_, rfl⟩
    have s8 : hh8[hh6.length]? = some (.row [I (-1), I (-1), I (-1)] true) := by rw [e8]; exact List.getElem?_set_self (lt_of_get r7)
    have z8 : hh8[0]? = some noneRow := by rw [e8, List.getElem?_set_ne (by omega)]; exact G7.at z6
    have t8 : hh8[h.length]? = some (.row [I 0, I 0, I 0] true) := by rw [e8, List.getElem?_set_ne (by omega)]; exact G7.at r6
    refine Store 81 (.pointer (some ⟨hh6.length, 0, none⟩)) (.agg #[I (-1), I (-1), I (-1)]) hh8 (by kernel_rfl) (by kernel_rfl) (by rw [e8]; exact store81 r7) ?_
    refine Run 1000 ?_
    refine Load 81 (.pointer (some ⟨hh6.length, 0, none⟩)) (.agg #[I (-1), I (-1), I (-1)]) (by kernel_rfl) (by kernel_rfl) (load81 s8) ?_
    refine Run 1000 ?_
    refine Load 81 (.pointer (some ⟨0, 0, none⟩)) (.agg #[I (-1), I (-1), I (-1)]) (by kernel_rfl) (by kernel_rfl) (load81 z8) ?_
    refine Run 1000 ?_
    refine Bin .eql 81 (.agg #[I (-1), I (-1), I (-1)]) (.agg #[I (-1), I (-1), I (-1)]) (.bool true) (by kernel_rfl) (by kernel_rfl) (by kernel_rfl) ?_
    refine RunA 1000 3 ?_
    refine PureV (.agg #[I 0, I 0, I 0]) (by kernel_rfl) (by kernel_rfl) (by kernel_rfl) ?_
    refine Run 1000 ?_
    refine Store 56 (.pointer (some ⟨h.length, 0, none⟩)) (.agg #[I 0, I 0, I 0]) _ (by kernel_rfl) (by kernel_rfl) (store56 t8) ?_
    refine Run 1000 ?_
    have hres := load56 (b := h.length) (own := true) (h := hh8.set h.length (.row [I 0, I 0, I 0] true)) (List.getElem?_set_self (lt_of_get t8))
    refine Fin_r (by kernel_rfl) ⟨Or.inr rfl, .tuple #[.agg #[I 0, I 0, I 0], .bool false, I 0], Eq.trans (fresults_cell3 (a := 6) (b := 7) (c := 8) (ty := 56) (v := .agg #[I 0, I 0, I 0]) (by kernel_rfl) (Eq.trans (by kernel_rfl) hres)) (by kernel_rfl), ⟨none, rfl, hR⟩, ?_⟩
    rw [e8]
    exact (((G1.trans G2).trans (G6.trans G7)).set (by omega) _).set (Nat.le_refl _) _
  | some q =>
    obtain ⟨i, j, w⟩ := q
    obtain ⟨hh8, e8⟩ : ∃ g, g = (hh6 ++ [AObj.row (Value.agg #[I 0, I 0, I 0]).cells.toList true]).set hh6.length (.row [I i, I j, I w] true) := ⟨_, rfl⟩
    have s8 : hh8[hh6.length]? = some (.row [I i, I j, I w] true) := by rw [e8]; exact List.getElem?_set_self (lt_of_get r7)
    have z8 : hh8[0]? = some noneRow := by rw [e8, List.getElem?_set_ne (by omega)]; exact G7.at z6
    have t8 : hh8[h.length]? = some (.row [I 0, I 0, I 0] true) := by rw [e8, List.getElem?_set_ne (by omega)]; exact G7.at r6
    refine Store 81 (.pointer (some ⟨hh6.length, 0, none⟩)) (.agg #[I i, I j, I w]) hh8 (by kernel_rfl) (by kernel_rfl) (by rw [e8]; exact store81 r7) ?_
    refine Run 1000 ?_
    refine Load 81 (.pointer (some ⟨hh6.length, 0, none⟩)) (.agg #[I i, I j, I w]) (by kernel_rfl) (by kernel_rfl) (load81 s8) ?_
    refine Run 1000 ?_
    refine Load 81 (.pointer (some ⟨0, 0, none⟩)) (.agg #[I (-1), I (-1), I (-1)]) (by kernel_rfl) (by kernel_rfl) (load81 z8) ?_
    refine Run 1000 ?_
    have hne : ((i : Int) == -1 && ((j : Int) == -1 && ((w : Int) == -1 && true))) = false := by
      have : ((i : Int) == -1) = false := by simp
      rw [this]; rfl
    refine Bin .eql 81 (.agg #[I i, I j, I w]) (.agg #[I (-1), I (-1), I (-1)]) (.bool ((i : Int) == -1 && ((j : Int) == -1 && ((w : Int) == -1 && true)))) (by kernel_rfl) (by kernel_rfl) (by kernel_rfl) ?_
    rw [hne]
    refine RunA 1000 3 ?_
    refine PureV (.pointer (some ⟨hh6.length, 0 + 0, none⟩)) (by kernel_rfl) (by kernel_rfl) (by kernel_rfl) ?_
    refine Run 1000 ?_
    refine Load 3 (.pointer (some ⟨hh6.length, 0 + 0, none⟩)) (I i) (by kernel_rfl) (by kernel_rfl) (load_row ti3 rfl s8 rfl) ?_
    refine Run 1000 ?_
    refine PureV (.pointer (some ⟨hh6.length, 0 + 1, none⟩)) (by kernel_rfl) (by kernel_rfl) (by kernel_rfl) ?_
    refine Run 1000 ?_
    refine Load 3 (.pointer (some ⟨hh6.length, 0 + 1, none⟩)) (I j) (by kernel_rfl) (by kernel_rfl) (load_row ti3 rfl s8 rfl) ?_
    refine Run 1000 ?_
    refine PureV (.pointer (some ⟨hh6.length, 0 + 2, none⟩)) (by kernel_rfl) (by kernel_rfl) (by kernel_rfl) ?_
    refine Run 1000 ?_
    refine Load 3 (.pointer (some ⟨hh6.length, 0 + 2, none⟩)) (I w) (by kernel_rfl) (by kernel_rfl) (load_row ti3 rfl s8 rfl) ?_
    refine Run 1000 ?_
    refine PureV (.agg #[I i, I j, I w]) (by kernel_rfl) (by kernel_rfl) (by kernel_rfl) ?_
    refine Run 1000 ?_
    refine Store 56 (.pointer (some ⟨h.length, 0, none⟩)) (.agg #[I i, I j, I w]) _ (by kernel_rfl) (by kernel_rfl) (store56 t8) ?_
    refine Run 1000 ?_
    have hres := load56 (b := h.length) (own := true) (h := hh8.set h.length (.row [I i, I j, I w] true)) (List.getElem?_set_self (lt_of_get t8))
    refine Fin_r (by kernel_rfl) ⟨Or.inr rfl, .tuple #[.agg #[I i, I j, I w], .bool true, I 0], Eq.trans (fresults_cell3 (a := 6) (b := 7) (c := 8) (ty := 56) (v := .agg #[I i, I j, I w]) (by kernel_rfl) (Eq.trans (by kernel_rfl) hres)) (by kernel_rfl), ⟨some (i, j, w), rfl, hR⟩, ?_⟩
    rw [e8]
    exact (((G1.trans G2).trans (G6.trans G7)).set (by omega) _).set (Nat.le_refl _) _
end Go.Proofs.YtpbmpdocgplhpaaDoor
