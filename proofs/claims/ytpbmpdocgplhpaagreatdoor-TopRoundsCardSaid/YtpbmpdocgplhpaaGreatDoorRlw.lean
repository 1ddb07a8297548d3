/-
  TopRounds, walked: what its callees answer being told.
-/
import Derived.Test.YtpbmpdocgplhpaaGreatDoorRpl
import Derived.Test.YtpbmpdocgplhpaaGreatDoorVc15
set_option linter.unusedSimpArgs false
set_option linter.unusedVariables false
set_option maxRecDepth 100000
namespace Go.Proofs.YtpbmpdocgplhpaaGreatDoor
open Go Go.AM

def rotF (l : List Bool) (k : Nat) : List Bool := l.drop k ++ l.take k
theorem S_size (l : List UInt8) : (S l).size = l.length := by simp [S, ByteArray.size]
theorem S_append (a b : List UInt8) : S a ++ S b = S (a ++ b) := by
  apply ByteArray.ext; simp [S, ByteArray.data_append]
theorem S_empty {l : List UInt8} : S l = .empty ↔ l = [] := by
  constructor
  · intro e
    have := congrArg ByteArray.size e
    rw [S_size] at this
    exact List.eq_nil_of_length_eq_zero (by simpa using this)
  · rintro rfl; rfl
theorem bl_length (l : List Bool) : (bl l).length = l.length := by simp [bl]
theorem wl_length (l : List Bool) : (wl l).length = l.length := by simp [wl]
/-- What is to be shown of each word and hour. -/
def okLK (l : List Bool) (k : Nat) : Bool :=
  Nat.beq (roundF l).length (perF l) && (Nat.beq (roundF (rotF l k)).length (perF l) && (Nat.beq (perF (roundF (rotF l k))) (roundF (rotF l k)).length &&
  ((tideE (S []) (S (bl (roundF l))) == 0) && ((tideE (S (bl (laterA (roundF (rotF l k)) k))) (S (bl (laterB (roundF (rotF l k)) k))) == 0) &&
  (List.range 12).all fun j => hasF (S []) (S (bl (roundF l))) (k + j) == hasF (S (bl (laterA (roundF (rotF l k)) k))) (S (bl (laterB (roundF (rotF l k)) k))) (k + j)))))

structure RX (X : Ext) : Prop where
  x6 : X 6 = none
  x3 : X 3 = none
  x11 : X 11 = none
  x33 : X 33 = none
  x36 : X 36 = none
  x31 : X 31 = none
  trim : TrimX X
  c5 : ∀ h, Ca Tryz.prog X (.fn 5) [] h (fun v h' => v = .bool true ∧ h' = h)
  c7 : ∀ (l : List Bool) (h : AHeap), 1 ≤ l.length → l.length ≤ 5 → Ca Tryz.prog X (.fn 7) [.string (S (wl l))] h (fun v h' => v = .tuple #[.bool (Nat.beq (perF l) l.length), I 0] ∧ h' = h)
  c8 : ∀ (l : List Bool), 1 ≤ l.length → l.length ≤ 5 → Ca Tryz.prog X (.fn 8) [.string (S (wl l))] H0 (fun v h' => ∃ a k, v = .tuple #[.slice a (perF l) k, I 0])
  c9 : ∀ (l : List Bool) (h : AHeap), 1 ≤ l.length → l.length ≤ 5 → Ca Tryz.prog X (.fn 9) [tideV .empty (S (bl l))] h (fun v h' => v = .tuple #[tideV .empty (S (bl (roundF l))), I 0] ∧ h' = h)
  c10 : ∀ (r : List Bool) (k : Nat) (h : AHeap), 1 ≤ r.length → r.length ≤ 5 → perF r = r.length → k < 5 → Ca Tryz.prog X (.fn 10) [tideV .empty (S (bl r)), I k] h (fun v h' => v = .tuple #[tideV (S (bl (laterA r k))) (S (bl (laterB r k))), I 0] ∧ h' = h)

def Knows (f : Nat → Value) (l : List (Nat × Value)) : Prop := l.map (fun p => f p.1) = l.map (·.2)
theorem small_spec {X : Ext} (hX : X 6 = none) (n : Int) (m : Nat) (hm : 1 ≤ m) (hm2 : m ≤ 1000000) (h : AHeap) : Ca Tryz.prog X (.fn 6) [I n, I (IntKind.wrap .i64 ((m : Int) - 1))] h (fun v h' => (∃ k : Nat, k < m ∧ v = I k) ∧ h' = h) := by
  have hw : IntKind.wrap .i64 (IntKind.wrap .i64 ((m : Int) - 1) + 1) = m := by
    simp [IntKind.wrap, IntKind.bits, IntKind.signed]; omega
  have hw2 : IntKind.wrap .u64 (m : Int) = m := by simp [IntKind.wrap, IntKind.bits, IntKind.signed]; omega
  have hn0 : 0 ≤ IntKind.wrap .u64 n := by simp [IntKind.wrap, IntKind.bits, IntKind.signed]; omega
  refine Ca_fn (fn := Tryz.f6) (c := Tryz.f6.body.getD .skip) hX (by kernel_rfl) (by kernel_rfl) (by kernel_rfl) ?_
  refine Run 1000 ?_
  refine Bin .rem 59 (.int .u64 (IntKind.wrap .u64 n)) (.int .u64 (IntKind.wrap .u64 (IntKind.wrap .i64 (IntKind.wrap .i64 ((m : Int) - 1) + 1)))) (.int .u64 (IntKind.wrap .u64 n % m)) (by kernel_rfl) (by kernel_rfl) (by
    rw [hw, hw2]; simp only [abin, aint, if_true]; rw [if_neg (by omega), Int.tmod_eq_emod_of_nonneg hn0]) ?_
  refine Run 1000 ?_
  refine Fin_r (by kernel_rfl) ⟨Or.inr rfl, (I (IntKind.wrap .i64 (IntKind.wrap .u64 n % m))), by kernel_rfl, ⟨((IntKind.wrap .u64 n % m).toNat), ?_, ?_⟩, rfl⟩
  · have := Int.emod_lt_of_pos (IntKind.wrap .u64 n) (show (0 : Int) < m by omega)
    have := Int.emod_nonneg (IntKind.wrap .u64 n) (show (m : Int) ≠ 0 by omega)
    omega
  · have h1 := Int.emod_lt_of_pos (IntKind.wrap .u64 n) (show (0 : Int) < m by omega)
    have h2 := Int.emod_nonneg (IntKind.wrap .u64 n) (show (m : Int) ≠ 0 by omega)
    congr 1
    generalize IntKind.wrap .u64 n % m = z at h1 h2
    simp [IntKind.wrap, IntKind.bits, IntKind.signed]; omega

abbrev Ends (Q : Value → Prop) : AExit → FS → Prop := fun e y => (e = .normal ∨ e = .ret) ∧ ∃ v, fresults Tryz.prog Tryz.f3.results.toList y = some v ∧ Q v

theorem hours_loop {X : Ext} (x : RX X) (k : Nat) (hk : k < 5) (a b c d : ByteArray) (ia ic : Nat) (h0 : AHeap) (ha : h0[ia]? = some (.row [.string a, .string b] true)) (hc : h0[ic]? = some (.row [.string c, .string d] true)) (ea : tideE a b = 0) (ec : tideE c d = 0)
    (hh : ∀ j, j < 12 → hasF a b (k + j) = hasF c d (k + j)) : ∀ (t j : Nat) (f : Nat → Value) (h : AHeap), j + t = 12 → Grew h0 h → Knows f [(8, I k), (13, .pointer (some ⟨ia, 0, none⟩)), (17, .pointer (some ⟨ic, 0, none⟩)), (19, I (k + j : Nat))] →
    Fin Tryz.prog X none Tryz.f3.ntmps (lpN Tryz.f3 1) .normal ⟨f, h⟩ (Ends fun v => v = .bool true) := by
  have hw : IntKind.wrap .i64 ((k : Int) + 12) = ((k + 12 : Nat) : Int) := by simp [IntKind.wrap, IntKind.bits, IntKind.signed]; omega
  intro t
  induction t with
  | zero =>
    intro j f h hj G hf
    obtain rfl : j = 12 := by omega
    refine Fin_known _ hf ?_
    refine Fin_unrl ?_
    refine Run 1000 ?_
    refine Fin_c (((k + 12 : Nat) : Int) < (IntKind.wrap .i64 (k + 12))) (by kernel_rfl) (fun h1 => by rw [hw] at h1; omega) (fun h1 => ?_)
    refine Run 1000 ?_
    refine Fin_call 5 [] (by kernel_rfl) (by kernel_rfl) (x.c5 _) (fun v12 hh12 hv12 => ?_)
    obtain ⟨rfl, rfl⟩ := hv12
    refine Run 1000 ?_
    exact Fin_r (by kernel_rfl) ⟨Or.inr rfl, (.bool true), by kernel_rfl, rfl⟩
  | succ t ih =>
    intro j f h hj G hf
    have e1 : hourE a b (k + j : Nat) = 0 := by rw [hourE, if_neg (by simpa using ea), if_neg (by omega)]
    have e2 : hourE c d (k + j : Nat) = 0 := by rw [hourE, if_neg (by simpa using ec), if_neg (by omega)]
    refine Fin_known _ hf ?_
    refine Fin_unrl ?_
    refine Run 1000 ?_
    refine Fin_c (((k + j : Nat) : Int) < (IntKind.wrap .i64 (k + 12))) (by kernel_rfl) (fun h1 => ?_) (fun h1 => by rw [hw] at h1; omega)
    refine Run 1000 ?_
    refine Load 31 (.pointer (some ⟨ia, 0, none⟩)) (tideV a b) (by kernel_rfl) (by kernel_rfl) (load_agg ti31 it31_agg it31_size (G.at ha) (Nat.le_refl 2)) ?_
    refine Run 1000 ?_
    refine Fin_call 11 [tideV a b, I (k + j : Nat)] (by kernel_rfl) (by kernel_rfl) (Has_spec x.x11 x.x33 x.x36 x.x31 x.trim a b _ _) (fun v3 hh3 hv3 => ?_)
    obtain ⟨rfl, G3⟩ := hv3
    have G3 : Grew h0 hh3 := G.trans G3
    refine Run 1000 ?_
    refine Load 31 (.pointer (some ⟨ic, 0, none⟩)) (tideV c d) (by kernel_rfl) (by kernel_rfl) (load_agg ti31 it31_agg it31_size (G3.at hc) (Nat.le_refl 2)) ?_
    refine Run 1000 ?_
    refine Fin_call 11 [tideV c d, I (k + j : Nat)] (by kernel_rfl) (by kernel_rfl) (Has_spec x.x11 x.x33 x.x36 x.x31 x.trim c d _ _) (fun v5 hh5 hv5 => ?_)
    obtain ⟨rfl, G5⟩ := hv5
    have G5 : Grew h0 hh5 := G3.trans G5
    refine Run 1000 ?_
    refine Fin_g2 (!(hourE a b (k + j : Nat) == 0)) (by kernel_rfl) (by kernel_rfl) (fun h7 => by rw [e1] at h7; simp at h7) (fun h7 => ?_)
    refine Run 1000 ?_
    refine Fin_g2 (!(hourE c d (k + j : Nat) == 0)) (by kernel_rfl) (by kernel_rfl) (fun h9 => by rw [e2] at h9; simp at h9) (fun h9 => ?_)
    refine Run 1000 ?_
    refine Fin_c2 (!((decide (hourE a b (k + j : Nat) = 0) && hasF a b ((k + j : Nat) : Int).toNat) == (decide (hourE c d (k + j : Nat) = 0) && hasF c d ((k + j : Nat) : Int).toNat))) (by kernel_rfl) (fun h11 => ?_) (fun h11 => ?_)
    · exfalso
      rw [e1, e2, Int.toNat_natCast, hh j (by omega)] at h11
      simp at h11
    · refine Run 1000 ?_
      refine Fin_goto (lpN Tryz.f3 1) hh5 [(8, I k), (13, .pointer (some ⟨ia, 0, none⟩)), (17, .pointer (some ⟨ic, 0, none⟩)), (19, I (IntKind.wrap .i64 ((k + j : Nat) + 1)))] (by kernel_rfl) (by kernel_rfl) (by kernel_rfl) (fun f' hf' => ?_)
      rw [show IntKind.wrap .i64 (((k + j : Nat) : Int) + 1) = ((k + (j + 1) : Nat) : Int) by simp [IntKind.wrap, IntKind.bits, IntKind.signed]; omega] at hf'
      exact ih (j + 1) f' hh5 (by omega) G5 hf'

theorem new_set (h : AHeap) (x y : AObj) : (h ++ [x]).set h.length y = h ++ [y] := by simp
theorem it31_zero : it31.zero.cells.toList = [.string .empty, .string .empty] := by kernel_rfl
theorem store31 (h : AHeap) (a b : ByteArray) : astore Tryz.prog (h ++ [.row [.string .empty, .string .empty] true]) 31 (.pointer (some ⟨h.length, 0, none⟩)) (tideV a b) = some (h ++ [.row [.string a, .string b] true]) := by
  simp [astore, ti31, it31_size, Value.cells, isData, storeN, isCell, splice]
theorem Alloc31 {X : Ext} {ro : Option Nat} {M : Nat} {K : List Fm} {f : Nat → Value} {h : AHeap} {Q : AExit → FS → Prop} (hl : vAlloc K = some 31) (hn : onOK M K = true)
    (k : Fin Tryz.prog X ro M (onK M K) .normal ⟨fput f (onD M K) (.pointer (some ⟨h.length, 0, none⟩)), h ++ [.row [.string .empty, .string .empty] true]⟩ Q) : Fin Tryz.prog X ro M K .normal ⟨f, h⟩ Q :=
  Alloc 31 hl hn ti31 (by kernel_rfl) (by rw [it31_zero]; exact k)
theorem ti4 : ti Tryz.prog 4 = some ⟨.bool, 1, 1, .bool false⟩ := by kernel_rfl
theorem beq_ok {a b : Nat} (h : Nat.beq a b = true) : a = b := Nat.eq_of_beq_eq_true h
theorem extract_S (l : List UInt8) (a b : Nat) : (S l).extract a b = S ((l.drop a).take (b - a)) := by
  apply ByteArray.ext
  simp [S, ByteArray.data_extract, List.extract]

theorem perGo_pos (l : List Bool) : ∀ t d, 1 ≤ d → 1 ≤ perGo l t d := by
  intro t
  induction t with
  | zero => intro d h; exact h
  | succ t ih =>
    intro d h
    simp only [perGo]
    cases eqB (l.drop d ++ l.take d) l with
    | true => exact h
    | false => exact ih (d + 1) (by omega)
theorem perF_pos (l : List Bool) : 1 ≤ perF l := perGo_pos l _ 1 (Nat.le_refl 1)
theorem tail_ok {X : Ext} (x : RX X) (by' : Int) (l : List Bool) (hl : l.length ≤ 5) (hall : ∀ k, k < l.length → okLK l k = true) (f : Nat → Value) (hf : Knows f [(1, I by'), (5, .string (S (wl l))), (6, .string (S (bl l)))]) :
    Fin Tryz.prog X none Tryz.f3.ntmps ((lpN Tryz.f3 0).drop 2) .normal ⟨f, H0⟩ (Ends fun v => v = .bool true) := by
  refine Fin_known _ hf ?_
  refine Run 1000 ?_
  refine Fin_c2 ((S (wl l)).data.toList == (ByteArray.mk #[]).data.toList) (by kernel_rfl) (fun h1 => ?_) (fun h1 => ?_)
  · refine Run 1000 ?_
    refine Fin_call 5 [] (by kernel_rfl) (by kernel_rfl) (x.c5 _) (fun v12 hh12 hv12 => ?_)
    obtain ⟨rfl, rfl⟩ := hv12
    refine Run 1000 ?_
    exact Fin_r (by kernel_rfl) ⟨Or.inr rfl, (.bool true), by kernel_rfl, rfl⟩
  · have hne : l ≠ [] := by
      rw [ba_list, decide_eq_false_iff_not, S_empty] at h1
      rintro rfl; exact h1 rfl
    have h1l : 1 ≤ l.length := by rcases l with _ | ⟨a, l⟩; exact absurd rfl hne; simp
    have hsz : (S (wl l)).size = l.length := by rw [S_size, wl_length]
    refine Run 1000 ?_
    refine Fin_call 6 [I by', I (IntKind.wrap .i64 (((S (wl l)).size : Int) - 1))] (by kernel_rfl) (by kernel_rfl) (small_spec x.x6 by' (S (wl l)).size (by omega) (by omega) _) (fun v2 hh2 hv2 => ?_)
    obtain ⟨⟨k, hk, rfl⟩, rfl⟩ := hv2
    rw [hsz] at hk
    have hok := hall k hk
    simp only [okLK, Bool.and_eq_true, beq_iff_eq, List.all_eq_true, List.mem_range] at hok
    obtain ⟨q1, q2, q3, q4, q5, q6⟩ := hok
    have q1 := beq_ok q1
    have q2 := beq_ok q2
    have q3 := beq_ok q3
    have hrl : (rotF l k).length = l.length := by simp [rotF]; omega
    have hrr : (roundF (rotF l k)).length ≤ 5 := by
      have : (roundF (rotF l k)).length ≤ (rotF l k).length := by simp [roundF]; omega
      omega
    have s1 : ((S (bl (roundF l))).size : Int) = perF l := by rw [S_size, bl_length, q1]
    have s2 : ((S (bl (roundF (rotF l k)))).size : Int) = perF l := by rw [S_size, bl_length, q2]
    have s3 : ((S (wl l)).size : Int) = l.length := by rw [hsz]
    refine Run 1000 ?_
    refine CallE 7 [.string (S (wl l))] (.tuple #[.bool (Nat.beq (perF l) l.length), I 0]) H0 (by kernel_rfl) (by kernel_rfl) (x.c7 l _ h1l hl) ?_
    refine Run 1000 ?_
    refine Fin_call 8 [.string (S (wl l))] (by kernel_rfl) (by kernel_rfl) (x.c8 l h1l hl) (fun v4 hh5 hv4 => ?_)
    obtain ⟨sa, sk, rfl⟩ := hv4
    refine Run 1000 ?_
    refine PureV (tideV .empty (S (bl l))) (by kernel_rfl) (by kernel_rfl) (by kernel_rfl) ?_
    refine Run 1000 ?_
    refine CallE 9 [tideV .empty (S (bl l))] (.tuple #[tideV .empty (S (bl (roundF l))), I 0]) hh5 (by kernel_rfl) (by kernel_rfl) (x.c9 l hh5 h1l hl) ?_
    refine Run 1000 ?_
    refine Alloc31 (by kernel_rfl) (by kernel_rfl) ?_
    refine Run 1000 ?_
    refine StoreX 31 (.pointer (some ⟨hh5.length, 0, none⟩)) (tideV .empty (S (bl (roundF l)))) (fun h' => h'[hh5.length]? = some (.row [.string .empty, .string (S (bl (roundF l)))] true)) (by kernel_rfl) (by kernel_rfl) ⟨_, store31 _ _ _, new_at _ _⟩ (fun hh6 ga => ?_)
    refine Run 1000 ?_
    refine Draw (by kernel_rfl) ?_
    refine Run 1000 ?_
    refine Slic 9 (.string (S (bl l))) (.string (S (bl (l.drop k)))) (some (I k)) none none (by kernel_rfl) (by kernel_rfl) ?_ ?_
    · simp only [aslice, ti9, abound, asIdx, S_size, bl_length]
      rw [if_pos (by omega)]
      simp only [Int.toNat_natCast, extract_S]
      congr 2
      simp only [bl, List.map_drop]
      rw [List.take_of_length_le (by simp)]
    refine Run 1000 ?_
    refine Slic 9 (.string (S (bl l))) (.string (S (bl (l.take k)))) none (some (I k)) none (by kernel_rfl) (by kernel_rfl) ?_ ?_
    · simp only [aslice, ti9, abound, asIdx, S_size, bl_length]
      rw [if_pos (by omega)]
      simp only [Int.toNat_natCast, extract_S]
      congr 2
      simp only [bl, List.map_take, List.drop_zero, Nat.sub_zero]
    refine Run 1000 ?_
    refine Bin .add 9 (.string (S (bl (l.drop k)))) (.string (S (bl (l.take k)))) (.string (S (bl (rotF l k)))) (by kernel_rfl) (by kernel_rfl) ?_ ?_
    · simp only [abin, astr]
      rw [if_pos (by rw [S_size, S_size, bl_length, bl_length]; simp; omega), S_append]
      simp [bl, rotF]
    refine Run 1000 ?_
    refine PureV (tideV .empty (S (bl (rotF l k)))) (by kernel_rfl) (by kernel_rfl) (by kernel_rfl) ?_
    refine Run 1000 ?_
    refine CallE 9 [tideV .empty (S (bl (rotF l k)))] (.tuple #[tideV .empty (S (bl (roundF (rotF l k)))), I 0]) hh6 (by kernel_rfl) (by kernel_rfl) (x.c9 (rotF l k) hh6 (by omega) (by omega)) ?_
    refine Run 1000 ?_
    refine Alloc31 (by kernel_rfl) (by kernel_rfl) ?_
    refine Run 1000 ?_
    refine StoreX 31 (.pointer (some ⟨hh6.length, 0, none⟩)) (tideV .empty (S (bl (roundF (rotF l k))))) (fun h' => h'[hh6.length]? = some (.row [.string .empty, .string (S (bl (roundF (rotF l k))))] true) ∧ h'[hh5.length]? = some (.row [.string .empty, .string (S (bl (roundF l)))] true)) (by kernel_rfl) (by kernel_rfl) ⟨_, store31 _ _ _, new_at _ _, (Grew.new _ _).at ga⟩ (fun hh7 gab => ?_)
    refine Run 1000 ?_
    refine Load 31 (.pointer (some ⟨hh6.length, 0, none⟩)) (tideV .empty (S (bl (roundF (rotF l k))))) (by kernel_rfl) (by kernel_rfl) (load_agg ti31 it31_agg it31_size gab.1 (Nat.le_refl 2)) ?_
    refine Run 1000 ?_
    refine CallE 10 [tideV .empty (S (bl (roundF (rotF l k)))), I k] (.tuple #[tideV (S (bl (laterA (roundF (rotF l k)) k))) (S (bl (laterB (roundF (rotF l k)) k))), I 0]) hh7 (by kernel_rfl) (by kernel_rfl) (x.c10 (roundF (rotF l k)) k hh7 (by rw [← q3]; exact perF_pos _) hrr q3 (by omega)) ?_
    refine Run 1000 ?_
    refine Alloc31 (by kernel_rfl) (by kernel_rfl) ?_
    refine Run 1000 ?_
    refine StoreX 31 (.pointer (some ⟨hh7.length, 0, none⟩)) (tideV (S (bl (laterA (roundF (rotF l k)) k))) (S (bl (laterB (roundF (rotF l k)) k)))) (fun h' => h'[hh7.length]? = some (.row [.string (S (bl (laterA (roundF (rotF l k)) k))), .string (S (bl (laterB (roundF (rotF l k)) k)))] true) ∧ h'[hh6.length]? = some (.row [.string .empty, .string (S (bl (roundF (rotF l k))))] true) ∧ h'[hh5.length]? = some (.row [.string .empty, .string (S (bl (roundF l)))] true)) (by kernel_rfl) (by kernel_rfl) ⟨_, store31 _ _ _, new_at _ _, (Grew.new _ _).at gab.1, (Grew.new _ _).at gab.2⟩ (fun hC gabc => ?_)
    refine RunA 1000 5 ?_
    refine PureV (.pointer (some ⟨hh5.length, 1, none⟩)) (by kernel_rfl) (by kernel_rfl) (by kernel_rfl) ?_
    refine Run 1000 ?_
    refine Load 9 (.pointer (some ⟨hh5.length, 1, none⟩)) (.string (S (bl (roundF l)))) (by kernel_rfl) (by kernel_rfl) (load_row ti9 rfl gabc.2.2 rfl) ?_
    refine Run 1000 ?_
    refine Fin_g2 (!(Nat.beq (perF l) l.length == (((S (bl (roundF l))).size : Int) == ((S (wl l)).size : Int)))) (by kernel_rfl) (by kernel_rfl) (fun h8 => ?_) (fun h8 => ?_)
    · exfalso
      rw [s1, s3] at h8
      have : Nat.beq (perF l) l.length = ((perF l : Int) == (l.length : Int)) := by
        rw [Bool.eq_iff_iff, Nat.beq_eq]
        simp
        omega
      rw [this] at h8
      simp at h8
    refine Run 1000 ?_
    refine PureV (.pointer (some ⟨hh5.length, 1, none⟩)) (by kernel_rfl) (by kernel_rfl) (by kernel_rfl) ?_
    refine Run 1000 ?_
    refine Load 9 (.pointer (some ⟨hh5.length, 1, none⟩)) (.string (S (bl (roundF l)))) (by kernel_rfl) (by kernel_rfl) (load_row ti9 rfl gabc.2.2 rfl) ?_
    refine Run 1000 ?_
    refine Fin_g2 (!((perF l : Int) == ((S (bl (roundF l))).size : Int))) (by kernel_rfl) (by kernel_rfl) (fun h9 => ?_) (fun h9 => ?_)
    · exfalso; rw [s1] at h9; simp at h9
    refine Run 1000 ?_
    refine PureV (.pointer (some ⟨hh6.length, 1, none⟩)) (by kernel_rfl) (by kernel_rfl) (by kernel_rfl) ?_
    refine Run 1000 ?_
    refine Load 9 (.pointer (some ⟨hh6.length, 1, none⟩)) (.string (S (bl (roundF (rotF l k))))) (by kernel_rfl) (by kernel_rfl) (load_row ti9 rfl gabc.2.1 rfl) ?_
    refine Run 1000 ?_
    refine PureV (.pointer (some ⟨hh5.length, 1, none⟩)) (by kernel_rfl) (by kernel_rfl) (by kernel_rfl) ?_
    refine Run 1000 ?_
    refine Load 9 (.pointer (some ⟨hh5.length, 1, none⟩)) (.string (S (bl (roundF l)))) (by kernel_rfl) (by kernel_rfl) (load_row ti9 rfl gabc.2.2 rfl) ?_
    refine Run 1000 ?_
    refine Fin_c2 (!(((S (bl (roundF (rotF l k)))).size : Int) == ((S (bl (roundF l))).size : Int))) (by kernel_rfl) (fun h10 => ?_) (fun h10 => ?_)
    · exfalso; rw [s1, s2] at h10; simp at h10
    refine Run 1000 ?_
    refine Fin_goto (lpN Tryz.f3 1) hC [(8, I k), (13, .pointer (some ⟨hh5.length, 0, none⟩)), (17, .pointer (some ⟨hh7.length, 0, none⟩)), (19, I (k + 0 : Nat))] (by kernel_rfl) (by kernel_rfl) (by kernel_rfl) (fun f' hf' => ?_)
    exact hours_loop x k (by omega) .empty (S (bl (roundF l))) _ _ hh5.length hh7.length hC gabc.2.2 gabc.1 q4 q5 q6 12 0 f' hC rfl (Grew.refl _) hf'
end Go.Proofs.YtpbmpdocgplhpaaGreatDoor
