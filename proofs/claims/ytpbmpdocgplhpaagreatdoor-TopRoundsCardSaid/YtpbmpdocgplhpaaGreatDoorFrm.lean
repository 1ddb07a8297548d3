/-
  tide.form's writer of texts: a list of bools as a string of 0 and 1: the library's builder by the shelf's contracts.
-/
import Derived.Test.YtpbmpdocgplhpaaGreatDoorLys
import Derived.Test.YtpbmpdocgplhpaaGreatDoorVc6
import Derived.Shelf.Strings.OnBuilder
set_option linter.unusedSimpArgs false
set_option linter.unusedVariables false
set_option maxRecDepth 100000
namespace Go.Proofs.YtpbmpdocgplhpaaGreatDoor
open Go Go.AM Go.Shelf Go.RowKit

theorem wbExtra : Builder.Extra Tryz.prog wbRen where
  sizeBuilder := by kernel_rfl
  liesBuilder := by kernel_rfl
  t5 := Tryz.underlying5
  a5 := Tryz.isAgg5
  z5 := Tryz.sizeOf5
  v5 := Tryz.zeroValue5
  infoByte := by kernel_rfl
  cellsByte := by kernel_rfl
  sizeByte := by kernel_rfl
  neB5 := by decide
theorem bsExtra : Builder.Extra Tryz.prog bsRen where
  sizeBuilder := by kernel_rfl
  liesBuilder := by kernel_rfl
  t5 := Tryz.underlying5
  a5 := Tryz.isAgg5
  z5 := Tryz.sizeOf5
  v5 := Tryz.zeroValue5
  infoByte := by kernel_rfl
  cellsByte := by kernel_rfl
  sizeByte := by kernel_rfl
  neB5 := by decide
def bitB (x : Bool) : UInt8 := bif x then 49 else 48
theorem wb_calls (B b : Nat) (bs : List Value) (c : Int) (w : World) (h : Lib.IsBuilder 109 5 B b bs w) (hlen : bs.length + 1 ≤ 140737488355328) (hBw : B ≤ w.heap.size) :
    Calls Tryz.prog 68 #[.pointer (some ⟨b, 0, none⟩), .int .u8 c] w fun e w' => e = .returned .nilIface ∧ (Lib.BuilderAt 109 5 B b (.pointer (some ⟨b, 0, none⟩)) (bs ++ [.int .u8 c]) w' ∧ Below B w w') :=
  Any.Builder_WriteByte (ρ := wbRen) wbLays wbExtra B b bs c w h hlen hBw
theorem bs_calls (B b : Nat) (l : List UInt8) (w : World) (h : Lib.IsBuilder 109 5 B b (Lib.byteCells l) w) (hBw : B ≤ w.heap.size) :
    Calls Tryz.prog 69 #[.pointer (some ⟨b, 0, none⟩)] w fun e w' => e = .returned (.string ⟨l.toArray⟩) ∧ Below B w w' :=
  Any.Builder_String_any (ρ := bsRen) bsLays bsExtra B b l w h hBw
theorem bits_succ (l : List Bool) (k : Nat) (hk : k < l.length) (c : Int) (hc : c = ((bitB l[k]).toNat : Int)) : Lib.byteCells ((l.take k).map bitB) ++ [Value.int .u8 c] = Lib.byteCells ((l.take (k + 1)).map bitB) := by
  rw [List.take_add_one, List.getElem?_eq_getElem hk, Option.toList_some, List.map_append, Lib.byteCells_append, hc]
  rfl

set_option maxHeartbeats 4000000 in
theorem form_calls (q : Option Addr) (len cap : Nat) (l : List Bool) (w : World) (hl : l.length = len) (hq : l ≠ [] → ∃ b off, q = some ⟨b, off, none⟩ ∧ b < w.heap.size ∧ ∀ (i : Nat) (x : Bool), l[i]? = some x → w.cell? ⟨b, off + i, none⟩ = some (.bool x)) (hlen : len < 1000000) :
    Calls Tryz.prog 67 #[.slice q len cap] w fun e w' => e = .returned (.string ⟨(l.map bitB).toArray⟩) ∧ Below w.heap.size w w' := by
  subst hl
  have H0 := Any.hidU (Lib.fresh_isBuilder 109 5 w)
  have Hb0 := Any.hidU ((Below.refl w.heap.size w).alloc (Nat.le_refl _) (.cells #[.pointer none, .slice none 0 0] 109))
  have HQ := Any.hidU hq
  clear hq
  go_enter Tryz.func67, Tryz.ntmps67
  go_wp2
  go_loopw [8] (fun i wr => ∃ k : Nat, k ≤ l.length ∧ i = .int .i64 k ∧ Hid (Lib.IsBuilder 109 5 w.heap.size w.heap.size (Lib.byteCells ((l.take k).map bitB)) wr) ∧ Hid (Below w.heap.size w wr)) (fun i _ => l.length - (intOf i).toNat)
  case atStart => exact ⟨0, Nat.zero_le _, rfl, H0, Hb0⟩
  case round =>
    obtain ⟨k, hk, rfl, HB, HW⟩ := hrel
    have hBw : w.heap.size ≤ wr.heap.size := HW.out.size
    have hbl : (Lib.byteCells ((l.take k).map bitB)).length = k := by rw [Lib.byteCells_length, List.length_map, List.length_take]; omega
    by_cases hlt : k < l.length
    · have hx : l[k]? = some l[k] := List.getElem?_eq_getElem hlt
      obtain ⟨b, off, rfl, hb, hc⟩ := HQ.out (fun e => by subst e; simp at hlt)
      have hcell : wr.cell? ⟨b, off + k, none⟩ = some (.bool l[k]) := by
        rw [← hc k _ hx]
        simp only [World.cell?, HW.out.block b hb]
      have Hs : ∀ c : Int, c = ((bitB l[k]).toNat : Int) → Hid (Lib.byteCells ((l.take k).map bitB) ++ [Value.int .u8 c] = Lib.byteCells ((l.take (k + 1)).map bitB)) := fun c hc => bits_succ l k hlt c hc
      clear hx hc
      generalize hxx : l[k] = x at hcell Hs
      cases x with
      | true =>
        have Hc := Hs 49 rfl
        go_wp2_with fail
        refine (wb_calls w.heap.size w.heap.size _ 49 wr HB.out (by rw [hbl]; omega) hBw).mono ?_
        rintro e w3 ⟨rfl, h3, hb3⟩
        rw [Hc.out] at h3
        have H3 := Any.hidU (Or.inr h3 : Lib.IsBuilder 109 5 w.heap.size w.heap.size _ w3)
        have Hb3 := Any.hidU (HW.out.trans hb3)
        clear h3 hb3
        go_wp2
        exact ⟨⟨k + 1, by omega, by go_num, H3, Hb3⟩, by simp [intOf]; omega⟩
      | false =>
        have Hc := Hs 48 rfl
        go_wp2_with fail
        refine (wb_calls w.heap.size w.heap.size _ 48 wr HB.out (by rw [hbl]; omega) hBw).mono ?_
        rintro e w3 ⟨rfl, h3, hb3⟩
        rw [Hc.out] at h3
        have H3 := Any.hidU (Or.inr h3 : Lib.IsBuilder 109 5 w.heap.size w.heap.size _ w3)
        have Hb3 := Any.hidU (HW.out.trans hb3)
        clear h3 hb3
        go_wp2
        exact ⟨⟨k + 1, by omega, by go_num, H3, Hb3⟩, by simp [intOf]; omega⟩
    · obtain rfl : k = l.length := by omega
      have HB' : Hid (Lib.IsBuilder 109 5 w.heap.size w.heap.size (Lib.byteCells (l.map bitB)) wr) := by rw [List.take_length] at HB; exact HB
      clear HB
      go_wp2_with fail
      refine (bs_calls w.heap.size w.heap.size (l.map bitB) wr HB'.out hBw).mono ?_
      rintro e w3 ⟨rfl, hb3⟩
      have Hb3 := Any.hidU (HW.out.trans hb3)
      clear hb3
      go_wp2
      go_ret
      exact ⟨rfl, Hb3.out⟩
end Go.Proofs.YtpbmpdocgplhpaaGreatDoor
