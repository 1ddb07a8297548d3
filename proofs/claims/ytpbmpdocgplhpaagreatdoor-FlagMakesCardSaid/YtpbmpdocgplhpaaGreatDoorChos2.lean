/-
  flag.chosen.
-/
import Derived.Test.YtpbmpdocgplhpaaGreatDoorChos
import Derived.Test.YtpbmpdocgplhpaaGreatDoorSortC
import Derived.Lib.Explode
import Derived.Lib.Join
set_option linter.unusedSimpArgs false
set_option linter.unusedVariables false
set_option maxRecDepth 100000
namespace Go.Proofs.YtpbmpdocgplhpaaGreatDoor
open Go Go.AM

def asciiB (s : ByteArray) : Bool := s.data.toList.all fun c => decide (c.toNat < 128)
/-- strings.Split(s, ""). -/
def splitC : List Value → AHeap → Option (Value × AHeap)
  | [.string s, .string sep], h => if sep.size = 0 ∧ asciiB s = true ∧ s.size < 1000000 then some (.slice (some ⟨h.length, 0, some 1⟩) s.size s.size, h ++ [.row (strs (Lib.charsB s)) true]) else none
  | _, _ => none
def joinF (d : List ByteArray) : ByteArray := ⟨(Lib.join (d.map fun s => s.data.toList) []).toArray⟩
/-- strings.Join(l, ""). -/
def joinC : List Value → AHeap → Option (Value × AHeap)
  | [.slice (some ⟨b, o, some 1⟩) len _, .string sep], h =>
    match loadN h b o len with
    | some cs =>
      match strsOf cs with
      | some L => if sep.size = 0 ∧ (joinF L).size ≤ 1000000 ∧ len ≤ 1000000 then some (.string (joinF L), h) else none
      | none => none
    | none => none
  | _, _ => none

theorem sslice_upto {a : Option Addr} {h : AHeap} {L : List (List ByteArray)} (s : SStrs h a L) (hne : L ≠ []) (kk k : Nat) (hk : k ≤ L.length) :
    ∃ a' kk', aslice Tryz.prog 121 (.slice a L.length kk) none (some (I k)) none = some (.slice a' (L.take k).length kk') ∧ SStrs h a' (L.take k) := by
  obtain ⟨b, o, cs, own, x, k0, rfl, _, _, _⟩ := s.2 0 (List.length_pos_iff.2 hne)
  refine ⟨some ⟨b, o, some 1⟩, _, by simp only [aslice, ti98, ti22, abound, asIdx]; rw [if_pos ⟨by omega, by omega⟩]; simp [List.length_take, Nat.min_eq_left hk]; rfl, Or.inr ⟨b, o, rfl⟩, ?_⟩
  intro i hi
  simp at hi
  obtain ⟨b2, o2, cs2, own2, x2, k2, e, h1, h2, h3⟩ := s.2 i (by omega)
  exact ⟨b2, o2, cs2, own2, x2, k2, e, h1, by simpa using h2, by simpa using h3⟩
theorem sslice_on {a : Option Addr} {h : AHeap} {L : List (List ByteArray)} (s : SStrs h a L) (hne : L ≠ []) (kk k : Nat) (hk : k ≤ L.length) :
    ∃ a' kk', aslice Tryz.prog 121 (.slice a L.length kk) (some (I k)) none none = some (.slice a' (L.drop k).length kk') ∧ SStrs h a' (L.drop k) := by
  obtain ⟨b, o, cs, own, x, k0, rfl, _, _, _⟩ := s.2 0 (List.length_pos_iff.2 hne)
  refine ⟨some ⟨b, o + k * 1, some 1⟩, _, by simp only [aslice, ti98, ti22, abound, asIdx]; rw [if_pos ⟨by omega, by omega⟩]; simp; rfl, Or.inr ⟨b, o + k * 1, rfl⟩, ?_⟩
  intro i hi
  simp at hi
  obtain ⟨b2, o2, cs2, own2, x2, k2, e, h1, h2, h3⟩ := s.2 (k + i) (by omega)
  simp only [Option.some.injEq, Addr.mk.injEq, and_true] at e
  obtain ⟨rfl, rfl⟩ := e
  refine ⟨b, o + k * 1, cs2, own2, x2, k2, rfl, h1, ?_, by simpa using h3⟩
  rw [show o + k * 1 + i = o + (k + i) by omega]
  simpa using h2

def fo (D : List (List ByteArray)) : Nat := D.findIdx oddB
def rotD (D : List (List ByteArray)) : List (List ByteArray) := D.drop (fo D) ++ D.take (fo D)
def addE (N d : List ByteArray) : List ByteArray := bif oddB d then N ++ [ByteArray.empty] else N
def mergeD (N d : List ByteArray) : List ByteArray := (addE N d).set ((addE N d).length - 1) (gt (addE N d) ((addE N d).length - 1) ++ joinF d)
def stepF (L : List ByteArray) : List ByteArray := (rotD (dipsF L)).foldl mergeD []
def chosenGo : Nat → List ByteArray → List ByteArray
  | 0, L => L
  | t + 1, L => bif decide (1 < L.length) then chosenGo t (stepF L) else L
def okD (D : List (List ByteArray)) : Bool := decide (fo D < D.length) && decide (D.length ≤ 100) && D.all fun d => decide ((joinF d).size ≤ 10000) && decide (1 ≤ d.length) && decide (d.length ≤ 1000)
def goodGo : Nat → List ByteArray → Bool
  | 0, L => L.length == 1
  | t + 1, L => bif decide (1 < L.length) then decide (L.length < 1000) && okD (dipsF L) && goodGo t (stepF L) else L.length == 1
def chosenF (w : ByteArray) : ByteArray := gt (chosenGo 4 (Lib.charsB w)) 0

theorem join_ca {X : Ext} (hX : X 78 = some joinC) (h : AHeap) (a : Option Addr) (k : Nat) (d : List ByteArray) (hs : Strs h a d) (h1 : 1 ≤ d.length) (hj : (joinF d).size ≤ 1000000) (hl : d.length ≤ 1000000) :
    Ca Tryz.prog X (.fn 78) [.slice a d.length k, .string ⟨#[]⟩] h (fun v h' => v = .string (joinF d) ∧ h' = h) := by
  obtain ⟨b, o, rfl, hld⟩ := hs.load (fun e => by rw [e] at h1; simp at h1)
  refine Ca_ext (c := joinC) hX (v := .string (joinF d)) (h' := h) ?_ ⟨rfl, rfl⟩
  simp only [joinC, hld, strsOf_strs]
  rw [if_pos ⟨rfl, hj, hl⟩]
theorem Acc.setAt {h0 h : AHeap} {v : Value} {L : List ByteArray} (A : Acc h0 h v L) {b : Nat} (hb : h0.length ≤ b) (hv : v = .slice (some ⟨b, 0, some 1⟩) L.length (L.length + 1)) (hr : h[b]? = some (.row (strs L) true)) (i : Nat) (s : ByteArray) :
    Acc h0 (h.set b (.row (strs (L.set i s)) true)) v (L.set i s) :=
  ⟨by simpa using A.le, fun j hj => by rw [List.getElem?_set_ne (by omega)]; exact A.old j hj, Or.inr ⟨b, hb, by simpa using hv, List.getElem?_set_self (lt_of_get hr)⟩⟩

theorem chos_in {X : Ext} (h87 : X 78 = some joinC) {Q : AExit → FS → Prop} (hb : AHeap) (aD : Option Addr) (kD : Nat) (D : List (List ByteArray)) (hD : D.length ≤ 100) (hs0 : SStrs hb aD D) (hok : ∀ d ∈ D, (joinF d).size ≤ 10000 ∧ 1 ≤ d.length ∧ d.length ≤ 1000) (h0 : 0 < D.length) (hodd : oddB D[0] = true) (res : List ByteArray)
    (K : ∀ f h v, Acc hb h v res → Knows f [(3, v)] → Fin Tryz.prog X none Tryz.f39.ntmps (lpN Tryz.f39 0) .normal ⟨f, h⟩ Q) :
    ∀ (t i : Nat) (f : Nat → Value) (h : AHeap) (vN : Value) (N : List ByteArray), i + t = D.length → (D.drop i).foldl mergeD N = res → Acc hb h vN N → (N = [] → i = 0) → N.length ≤ i → (∀ x ∈ N, x.size ≤ 10000 * i) → Knows f [(25, .slice aD D.length kD), (26, I D.length), (27, I i), (6, vN)] →
    Fin Tryz.prog X none Tryz.f39.ntmps (lpN Tryz.f39 1) .normal ⟨f, h⟩ Q := by
  intro t
  induction t with
  | zero =>
    intro i f h vN N hi he A hn hl hsz hf
    rw [List.drop_of_length_le (by omega)] at he
    have : N = res := he
    subst this
    refine Fin_known _ hf ?_
    refine Fin_unrl ?_
    refine Run 1000 ?_
    refine Fin_c ((i : Int) < D.length) (by kernel_rfl) (fun h1 => by omega) (fun h1 => ?_)
    refine Run 1000 ?_
    refine Fin_goto (lpN Tryz.f39 0) h [(3, vN)] (by kernel_rfl) rfl (by kernel_rfl) (fun f' hf' => ?_)
    exact K f' h vN A hf'
  | succ t ih =>
    intro i f h vN N hi he A hn hl hsz hf
    have hlt : i < D.length := by omega
    obtain ⟨b, o, cs, own, x, kx, rfl, hbr, hc, hx⟩ := hs0.2 i hlt
    obtain ⟨d, ed⟩ : ∃ d, d = D[i] := ⟨_, rfl⟩
    rw [← ed] at hc hx
    obtain ⟨j1, j2, j3⟩ := hok d (by rw [ed]; exact List.getElem_mem _)
    have hdrop : D.drop i = d :: D.drop (i + 1) := by rw [ed]; exact List.drop_eq_getElem_cons hlt
    rw [hdrop, List.foldl_cons] at he
    have hnext : IntKind.wrap .i64 ((i : Int) + 1) = ((i + 1 : Nat) : Int) := wrap_next hlt (by omega)
    obtain ⟨od, eod⟩ : ∃ q, q = oddB d := ⟨_, rfl⟩
    have hmod : ((Int.tmod (d.length : Int) 2) == 1) = od := by rw [odd_eq, eod]; rfl
    -- the row that is stored into
    obtain ⟨N1, eN1⟩ : ∃ N1, N1 = addE N d := ⟨_, rfl⟩
    have hN1 : 1 ≤ N1.length := by
      rw [eN1]; unfold addE; rw [← eod]
      cases od with
      | true => simp
      | false =>
        simp only [cond_false]
        by_cases e : N = []
        · exfalso
          have hi0 := hn e
          subst hi0
          rw [ed] at eod
          rw [hodd] at eod; simp at eod
        · exact List.length_pos_iff.2 e
    have hN1l : N1.length ≤ i + 1 := by
      rw [eN1]; unfold addE
      cases oddB d <;> simp <;> omega
    have hN1s : ∀ y ∈ N1, y.size ≤ 10000 * i := by
      intro y hy
      rw [eN1] at hy; unfold addE at hy
      cases hq : oddB d with
      | true =>
        rw [hq] at hy
        simp only [cond_true] at hy
        rcases List.mem_append.1 hy with hy | hy
        · exact hsz y hy
        · rw [List.mem_singleton.1 hy]; simp
      | false => rw [hq] at hy; exact hsz y hy
    obtain ⟨last, el⟩ : ∃ u, u = gt N1 (N1.length - 1) := ⟨_, rfl⟩
    have hlast : last.size ≤ 10000 * i := by
      rw [el, gt_at N1 _ (by omega)]; exact hN1s _ (List.getElem_mem _)
    have hmerge : mergeD N d = N1.set (N1.length - 1) (last ++ joinF d) := by unfold mergeD; rw [← eN1, ← el]
    rw [hmerge] at he
    have hw1 : IntKind.wrap .i64 ((N1.length : Int) - 1) = ((N1.length - 1 : Nat) : Int) := by rw [wrap_small (by omega) (by omega)]; omega
    have hres : ∀ y ∈ N1.set (N1.length - 1) (last ++ joinF d), y.size ≤ 10000 * (i + 1) := by
      intro y hy
      rcases List.mem_or_eq_of_mem_set hy with hy | rfl
      · have := hN1s y hy; omega
      · rw [ByteArray.size_append]; omega
    -- from the region on
    have tail : ∀ (f : Nat → Value) (h1 : AHeap) (bN : Nat), hb.length ≤ bN → Acc hb h1 (.slice (some ⟨bN, 0, some 1⟩) N1.length (N1.length + 1)) N1 → h1[bN]? = some (.row (strs N1) true) →
        ∃ h3, astore Tryz.prog h1 9 (.pointer (some ⟨bN, 0 + (IntKind.wrap .i64 ((N1.length : Int) - 1)).toNat * 1, none⟩)) (.string (last ++ joinF d)) = some h3 ∧ Acc hb h3 (.slice (some ⟨bN, 0, some 1⟩) N1.length (N1.length + 1)) (N1.set (N1.length - 1) (last ++ joinF d)) := by
      intro f h1 bN hbN A1 hr
      refine ⟨h1.set bN (.row (strs (N1.set (N1.length - 1) (last ++ joinF d))) true), ?_, A1.setAt hbN rfl hr _ _⟩
      have := store_str (h0 := h1) (b := bN) (o := 0 + (IntKind.wrap .i64 ((N1.length : Int) - 1)).toNat * 1) (i := N1.length - 1) (L := N1) (a := last ++ joinF d) (lt_of_get hr) (by rw [hw1]; simp) (by omega)
      rw [← set_same hr] at this
      exact this
    have hsl : (N1.set (N1.length - 1) (last ++ joinF d)).length = N1.length := by simp
    have hG := A.grew
    have goOn : ∀ (h3 : AHeap) (bN : Nat), Acc hb h3 (.slice (some ⟨bN, 0, some 1⟩) N1.length (N1.length + 1)) (N1.set (N1.length - 1) (last ++ joinF d)) → ∀ f', Knows f' [(25, .slice (some ⟨b, o, some 1⟩) D.length kD), (26, I D.length), (27, I (i + 1 : Nat)), (6, .slice (some ⟨bN, 0, some 1⟩) N1.length (N1.length + 1))] → Fin Tryz.prog X none Tryz.f39.ntmps (lpN Tryz.f39 1) .normal ⟨f', h3⟩ Q := by
      intro h3 bN A3 f' hf'
      exact ih (i + 1) f' h3 _ (N1.set (N1.length - 1) (last ++ joinF d)) (by omega) he A3 (fun e => by have := congrArg List.length e; rw [hsl, List.length_nil] at this; omega) (by rw [hsl]; omega) hres hf'
    cases od with
    | true =>
      obtain ⟨v2, hn2, ea, A2, _, _⟩ := A.app ByteArray.empty (by omega)
      have eN : N ++ [ByteArray.empty] = N1 := by rw [eN1]; unfold addE; rw [← eod]; rfl
      rw [eN] at A2
      obtain ⟨bN, hbN, rfl, hr⟩ := A2.row (by omega)
      obtain ⟨h3, est, A3⟩ := tail f hn2 bN hbN A2 hr
      have hGx := A2.grew
      have hld : aload Tryz.prog hn2 9 (.pointer (some ⟨bN, 0 + (IntKind.wrap .i64 ((N1.length : Int) - 1)).toNat * 1, none⟩)) = some (.string last) := by
        refine load_str hr (i := N1.length - 1) (by rw [hw1]; simp) ?_
        rw [el, gt_at N1 _ (by omega)]; exact List.getElem?_eq_getElem _
      refine Fin_known _ hf ?_
      refine Fin_unrl ?_
      refine Run 1000 ?_
      refine Fin_c ((i : Int) < D.length) (by kernel_rfl) (fun h1 => ?_) (fun h1 => by omega)
      refine Run 1000 ?_
      refine IdxA 121 b o 1 D.length kD .i64 i (by kernel_rfl) (by kernel_rfl) ti98 rfl ti22 rfl (by omega) (by omega) ?_
      refine Run 1000 ?_
      refine Load 27 (.pointer (some ⟨b, o + (i : Int).toNat * 1, none⟩)) (.slice x d.length kx) (by kernel_rfl) (by kernel_rfl) (load_row ti22 rfl (hG.at hbr) (by simpa using hc)) ?_
      refine Run 1000 ?_
      refine Fin_cB true (Eq.trans (b := .bool ((Int.tmod (d.length : Int) 2) == 1)) (by kernel_rfl) (by rw [hmod])) ?_
      refine Run 1000 ?_
      refine Bld 27 1 [(0, .string ⟨#[]⟩)] (.slice (some ⟨h.length, 0, some 1⟩) 1 1) (h ++ [AObj.row [Value.string ByteArray.empty] true]) (by kernel_rfl) (by kernel_rfl) (by simp [abuildSlice, ti22, ti9, zerosOf, afill, splice, isCell, Value.cells, isData]; rfl) ?_
      refine Run 1000 ?_
      refine App 27 27 vN (.slice (some ⟨h.length, 0, some 1⟩) 1 1) (.slice (some ⟨bN, 0, some 1⟩) N1.length (N1.length + 1)) hn2 (by kernel_rfl) (by kernel_rfl) Tryz.underlying27 (by simp) ea ?_
      refine Run 1000 ?_
      refine DrawG (regN Tryz.f39 11) (by kernel_rfl) ?_
      refine DRun 1000 (by kernel_rfl) ?_
      refine DIdxA 27 bN 0 1 N1.length (N1.length + 1) .i64 (IntKind.wrap .i64 ((N1.length : Int) - 1)) (by kernel_rfl) (by kernel_rfl) ti22 rfl ti9 rfl (by omega) (by omega) ?_
      refine DRun 1000 (by kernel_rfl) ?_
      refine DLoad 9 (.pointer (some ⟨bN, 0 + (IntKind.wrap .i64 ((N1.length : Int) - 1)).toNat * 1, none⟩)) (.string last) [] (by kernel_rfl) (by kernel_rfl) (by kernel_rfl) hld (by simp) ?_
      refine DRun 1000 (by kernel_rfl) ?_
      refine DCall 78 [.slice x d.length kx, .string ⟨#[]⟩] [(9, .pointer (some ⟨bN, 0 + (IntKind.wrap .i64 ((N1.length : Int) - 1)).toNat * 1, none⟩), .string last)] (by kernel_rfl) (by kernel_rfl) (by kernel_rfl) (join_ca h87 hn2 x kx d (hx.grow hGx) j2 (by omega) (by omega)) (fun v6 hh6 hv6 => ⟨?_, ?_⟩)
      · obtain ⟨_, rfl⟩ := hv6
        intro p hp
        simp only [List.mem_singleton] at hp
        subst hp
        exact hld
      obtain ⟨rfl, rfl⟩ := hv6
      refine DRun 1000 (by kernel_rfl) ?_
      refine DBin .add 9 (.string last) (.string (joinF d)) (.string (last ++ joinF d)) (by kernel_rfl) (by kernel_rfl) (add_str _ _ (by omega)) ?_
      refine DRun 1000 (by kernel_rfl) ?_
      refine DIdxA 27 bN 0 1 N1.length (N1.length + 1) .i64 (IntKind.wrap .i64 ((N1.length : Int) - 1)) (by kernel_rfl) (by kernel_rfl) ti22 rfl ti9 rfl (by omega) (by omega) ?_
      refine DRun 1000 (by kernel_rfl) ?_
      refine DStore 9 (.pointer (some ⟨bN, 0 + (IntKind.wrap .i64 ((N1.length : Int) - 1)).toNat * 1, none⟩)) (.string (last ++ joinF d)) h3 [] (by kernel_rfl) (by kernel_rfl) (by kernel_rfl) est (by simp) ?_
      refine DRun 1000 (by kernel_rfl) ?_
      refine FinD_end (by kernel_rfl) ?_
      refine Run 1000 ?_
      refine Fin_goto (lpN Tryz.f39 1) h3 [(25, .slice (some ⟨b, o, some 1⟩) D.length kD), (26, I D.length), (27, I (IntKind.wrap .i64 ((i : Int) + 1))), (6, .slice (some ⟨bN, 0, some 1⟩) N1.length (N1.length + 1))] (by kernel_rfl) rfl (by kernel_rfl) (fun f' hf' => ?_)
      rw [hnext] at hf'
      exact goOn h3 bN A3 f' hf'
    | false =>
      have eN : N1 = N := by rw [eN1]; unfold addE; rw [← eod]; rfl
      rw [← eN] at A
      obtain ⟨bN, hbN, rfl, hr⟩ := A.row (by omega)
      obtain ⟨h3, est, A3⟩ := tail f h bN hbN A hr
      have hGx := A.grew
      have hld : aload Tryz.prog h 9 (.pointer (some ⟨bN, 0 + (IntKind.wrap .i64 ((N1.length : Int) - 1)).toNat * 1, none⟩)) = some (.string last) := by
        refine load_str hr (i := N1.length - 1) (by rw [hw1]; simp) ?_
        rw [el, gt_at N1 _ (by omega)]; exact List.getElem?_eq_getElem _
      refine Fin_known _ hf ?_
      refine Fin_unrl ?_
      refine Run 1000 ?_
      refine Fin_c ((i : Int) < D.length) (by kernel_rfl) (fun h1 => ?_) (fun h1 => by omega)
      refine Run 1000 ?_
      refine IdxA 121 b o 1 D.length kD .i64 i (by kernel_rfl) (by kernel_rfl) ti98 rfl ti22 rfl (by omega) (by omega) ?_
      refine Run 1000 ?_
      refine Load 27 (.pointer (some ⟨b, o + (i : Int).toNat * 1, none⟩)) (.slice x d.length kx) (by kernel_rfl) (by kernel_rfl) (load_row ti22 rfl (hG.at hbr) (by simpa using hc)) ?_
      refine Run 1000 ?_
      refine Fin_cB false (Eq.trans (b := .bool ((Int.tmod (d.length : Int) 2) == 1)) (by kernel_rfl) (by rw [hmod])) ?_
      refine Run 1000 ?_
      refine DrawG (regN Tryz.f39 11) (by kernel_rfl) ?_
      refine DRun 1000 (by kernel_rfl) ?_
      refine DIdxA 27 bN 0 1 N1.length (N1.length + 1) .i64 (IntKind.wrap .i64 ((N1.length : Int) - 1)) (by kernel_rfl) (by kernel_rfl) ti22 rfl ti9 rfl (by omega) (by omega) ?_
      refine DRun 1000 (by kernel_rfl) ?_
      refine DLoad 9 (.pointer (some ⟨bN, 0 + (IntKind.wrap .i64 ((N1.length : Int) - 1)).toNat * 1, none⟩)) (.string last) [] (by kernel_rfl) (by kernel_rfl) (by kernel_rfl) hld (by simp) ?_
      refine DRun 1000 (by kernel_rfl) ?_
      refine DCall 78 [.slice x d.length kx, .string ⟨#[]⟩] [(9, .pointer (some ⟨bN, 0 + (IntKind.wrap .i64 ((N1.length : Int) - 1)).toNat * 1, none⟩), .string last)] (by kernel_rfl) (by kernel_rfl) (by kernel_rfl) (join_ca h87 h x kx d (hx.grow hGx) j2 (by omega) (by omega)) (fun v6 hh6 hv6 => ⟨?_, ?_⟩)
      · obtain ⟨_, rfl⟩ := hv6
        intro p hp
        simp only [List.mem_singleton] at hp
        subst hp
        exact hld
      obtain ⟨rfl, rfl⟩ := hv6
      refine DRun 1000 (by kernel_rfl) ?_
      refine DBin .add 9 (.string last) (.string (joinF d)) (.string (last ++ joinF d)) (by kernel_rfl) (by kernel_rfl) (add_str _ _ (by omega)) ?_
      refine DRun 1000 (by kernel_rfl) ?_
      refine DIdxA 27 bN 0 1 N1.length (N1.length + 1) .i64 (IntKind.wrap .i64 ((N1.length : Int) - 1)) (by kernel_rfl) (by kernel_rfl) ti22 rfl ti9 rfl (by omega) (by omega) ?_
      refine DRun 1000 (by kernel_rfl) ?_
      refine DStore 9 (.pointer (some ⟨bN, 0 + (IntKind.wrap .i64 ((N1.length : Int) - 1)).toNat * 1, none⟩)) (.string (last ++ joinF d)) h3 [] (by kernel_rfl) (by kernel_rfl) (by kernel_rfl) est (by simp) ?_
      refine DRun 1000 (by kernel_rfl) ?_
      refine FinD_end (by kernel_rfl) ?_
      refine Run 1000 ?_
      refine Fin_goto (lpN Tryz.f39 1) h3 [(25, .slice (some ⟨b, o, some 1⟩) D.length kD), (26, I D.length), (27, I (IntKind.wrap .i64 ((i : Int) + 1))), (6, .slice (some ⟨bN, 0, some 1⟩) N1.length (N1.length + 1))] (by kernel_rfl) rfl (by kernel_rfl) (fun f' hf' => ?_)
      rw [hnext] at hf'
      exact goOn h3 bN A3 f' hf'
end Go.Proofs.YtpbmpdocgplhpaaGreatDoor
