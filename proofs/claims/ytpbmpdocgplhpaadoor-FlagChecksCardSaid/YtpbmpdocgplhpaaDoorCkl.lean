/-
  'FlagChecks', walked.
-/
import Derived.Test.YtpbmpdocgplhpaaDoorRefuse
import Derived.Test.YtpbmpdocgplhpaaDoorCode
import Derived.Test.YtpbmpdocgplhpaaDoorOwn
import Derived.Test.YtpbmpdocgplhpaaDoorAx2
set_option linter.unusedSimpArgs false
set_option linter.unusedVariables false
set_option maxRecDepth 100000
namespace Go.Proofs.YtpbmpdocgplhpaaDoor
open Go Go.AM

set_option maxHeartbeats 2000000 in
theorem ck_range (k n : Int) (hin : inRange k n = false) (h : AHeap) (a : Option Addr) (kk : Nat) (S : List ByteArray) (hS : S.length ≤ 9223372036854775807) (hss : Strs h a S) :
    Ca Tryd.prog AX2 (.fn 14) [I k, I n, .slice a S.length kk] h (fun v _ => v = .bool true) := by
  obtain ⟨d6, hd6, _⟩ := ti56
  obtain ⟨L, eL⟩ : ∃ L, L = ownF S := ⟨_, rfl⟩
  have hlen : L.length ≤ 1100 := by rw [eL, ownF_length]; omega
  have hop : openF k n L = 1 := by unfold openF; rw [if_neg (by rw [hin]; simp)]
  refine Ca_fn (fn := Tryd.f14) (c := Tryd.f14.body.getD .skip) (by kernel_rfl) (by kernel_rfl) (by kernel_rfl) (by kernel_rfl) ?_
  refine Run 1000 ?_
  refine Fin_call 44 [.slice a S.length kk] (by kernel_rfl) (by kernel_rfl) (own_spec (X := AX2) (by kernel_rfl) h a kk S hS hss) (fun v1 hh1 A1 => ?_)
  rw [← eL] at A1
  obtain ⟨a1, kk1, rfl, st1⟩ := A1.as_strs
  refine Run 1000 ?_
  refine Fin_call 17 [I k, I n] (by kernel_rfl) (by kernel_rfl) (by
    have c := range_spec (X := AX2) (by kernel_rfl) k n hh1
    rw [hin] at c; exact c) (fun v2 hh2 hv2 => ?_)
  obtain ⟨rfl, rfl⟩ := hv2
  refine RunA 1000 1 ?_
  refine Fin_call 48 [I k, I n, .slice a1 L.length kk1] (by kernel_rfl) (by kernel_rfl) (by
    have c := chk_spec (X := AX2) (by kernel_rfl) overX2 k n hh2 a1 kk1 L (by omega) st1 (by kernel_rfl)
    rw [hop] at c; exact c) (fun v4 hh4 hv4 => ?_)
  obtain ⟨rfl, G4⟩ := hv4
  have s4 := st1.grow G4
  refine RunA 1000 5 ?_
  refine Fin_call 33 [I k, I n, .slice a1 L.length kk1] (by kernel_rfl) (by kernel_rfl) (clash_no (X := AX2) (by kernel_rfl) overX2 k n hh4 a1 kk1 L (by omega) s4 1 rfl hop (by kernel_rfl)) (fun v5 hh5 hv5 => ?_)
  obtain ⟨rfl, G5⟩ := hv5
  refine Run 1000 ?_
  refine Alloc 56 (by kernel_rfl) (by kernel_rfl) hd6 rfl ?_
  have G6 : Grew hh5 (hh5 ++ [AObj.row (Value.agg #[I 0, I 0, I 0]).cells.toList true]) := ⟨_, rfl⟩
  have r6 : (hh5 ++ [AObj.row (Value.agg #[I 0, I 0, I 0]).cells.toList true])[hh5.length]? = some (.row [I 0, I 0, I 0] true) := by rw [List.getElem?_append_right (Nat.le_refl _)]; simp [Value.cells]
  obtain ⟨h7, e7⟩ : ∃ h7, h7 = (hh5 ++ [AObj.row (Value.agg #[I 0, I 0, I 0]).cells.toList true]).set hh5.length (.row [I 0, I 0, I 0] true) := ⟨_, rfl⟩
  have hstore := store56 (x := 0) (y := 0) (z := 0) r6
  rw [← e7] at hstore
  have G7 : Grew hh5 h7 := by rw [e7]; exact G6.set (Nat.le_refl _) _
  have r7 : h7[hh5.length]? = some (.row [I 0, I 0, I 0] true) := by rw [e7]; exact List.getElem?_set_self (lt_of_get r6)
  have s7 := s4.grow (G5.trans G7)
  refine Run 1000 ?_
  refine Store 56 (.pointer (some ⟨hh5.length, 0, none⟩)) (.agg #[I 0, I 0, I 0]) h7 (by kernel_rfl) (by kernel_rfl) hstore ?_
  refine Run 1000 ?_
  refine PureV (.agg #[I 0, I 0, I 0]) (by kernel_rfl) (by kernel_rfl) (by kernel_rfl) ?_
  refine Run 1000 ?_
  refine Fin_call 46 [I k, I n, .slice a1 L.length kk1, .agg #[I 0, I 0, I 0]] (by kernel_rfl) (by kernel_rfl) (isclash_no (X := AX2) (by kernel_rfl) overX2 k n h7 a1 kk1 L (by omega) s7 1 rfl hop (by kernel_rfl) 0 0 0) (fun v8 hh8 hv8 => ?_)
  obtain ⟨rfl, G8⟩ := hv8
  have s8 := s7.grow G8
  refine Run 1000 ?_
  refine Fin_call 24 [I k, I n, .slice a1 L.length kk1, .string ⟨#[63]⟩] (by kernel_rfl) (by kernel_rfl) (reads_no (X := AX2) (by kernel_rfl) overX2 k n hh8 a1 kk1 L (by omega) s8 1 rfl hop (by kernel_rfl) (by kernel_rfl) _) (fun v9 hh9 hv9 => ?_)
  obtain ⟨rfl, G9⟩ := hv9
  have s9 := s8.grow G9
  refine Run 1000 ?_
  refine Fin_call 25 [I k, I n, .slice a1 L.length kk1, .string ⟨#[63]⟩] (by kernel_rfl) (by kernel_rfl) (cut_no (X := AX2) (by kernel_rfl) overX2 k n hh9 a1 kk1 L (by omega) s9 1 rfl hop (by kernel_rfl) (by kernel_rfl) _) (fun v10 hh10 hv10 => ?_)
  obtain ⟨rfl, G10⟩ := hv10
  have s10 := s9.grow G10
  refine Run 1000 ?_
  refine Fin_call 41 [I k, I n, .slice a1 L.length kk1] (by kernel_rfl) (by kernel_rfl) (grow_no (X := AX2) (by kernel_rfl) overX2 k n hh10 a1 kk1 L (by omega) s10 1 rfl hop (by kernel_rfl)) (fun v11 hh11 hv11 => ?_)
  obtain ⟨rfl, G11⟩ := hv11
  have r11 := (G8.trans (G9.trans (G10.trans G11))).at r7
  refine RunA 1000 30 ?_
  refine Load 56 (.pointer (some ⟨hh5.length, 0, none⟩)) (.agg #[I 0, I 0, I 0]) (by kernel_rfl) (by kernel_rfl) (load56 r11) ?_
  refine Run 1000 ?_
  refine PureV (.agg #[I 0, I 0, I 0]) (by kernel_rfl) (by kernel_rfl) (by kernel_rfl) ?_
  refine Run 1000 ?_
  refine Bin .neq 56 (.agg #[I 0, I 0, I 0]) (.agg #[I 0, I 0, I 0]) (.bool false) (by kernel_rfl) (by kernel_rfl) (by kernel_rfl) ?_
  refine RunA 1000 10 ?_
  refine Fin_call 15 [I k, I n] (by kernel_rfl) (by kernel_rfl) (rings_no (X := AX2) (by kernel_rfl) (by kernel_rfl) k n hin hh11) (fun v12 hh12 hv12 => ?_)
  obtain ⟨rfl, rfl⟩ := hv12
  refine Run 1000 ?_
  refine Fin_call 47 [I k, I n] (by kernel_rfl) (by kernel_rfl) (make_no (X := AX2) (by kernel_rfl) (by kernel_rfl) k n hin hh12) (fun v13 hh13 hv13 => ?_)
  obtain ⟨rfl, rfl⟩ := hv13
  refine RunA 1000 10 ?_
  refine Fin_call 22 [] (by kernel_rfl) (by kernel_rfl) (awake_ca2 hh13) (fun v20 hh20 hv20 => ?_)
  obtain ⟨rfl, rfl⟩ := hv20
  refine RunA 1000 10 ?_
  exact Fin_r (by kernel_rfl) ⟨Or.inr rfl, .bool true, by kernel_rfl, rfl⟩
set_option maxHeartbeats 2000000 in
theorem ck_code (k n : Nat) (hin : inRange k n = true) (h : AHeap) (a : Option Addr) (kk : Nat) (S : List ByteArray) (hS : S.length ≤ 9223372036854775807) (hss : Strs h a S) (hc : codeF k n (ownF S) = false) :
    Ca Tryd.prog AX2 (.fn 14) [I k, I n, .slice a S.length kk] h (fun v _ => v = .bool true) := by
  obtain ⟨d6, hd6, _⟩ := ti56
  obtain ⟨L, eL⟩ : ∃ L, L = ownF S := ⟨_, rfl⟩
  have hlen : L.length ≤ 1100 := by rw [eL, ownF_length]; omega
  rw [← eL] at hc
  obtain ⟨i1, i2, i3, i4⟩ := inRange_iff.1 hin
  have hop : openF k n L = 60 := by
    unfold openF
    rw [if_pos hin]
    simp only [Int.toNat_natCast, hc, cod]
    rfl
  refine Ca_fn (fn := Tryd.f14) (c := Tryd.f14.body.getD .skip) (by kernel_rfl) (by kernel_rfl) (by kernel_rfl) (by kernel_rfl) ?_
  refine Run 1000 ?_
  refine Fin_call 44 [.slice a S.length kk] (by kernel_rfl) (by kernel_rfl) (own_spec (X := AX2) (by kernel_rfl) h a kk S hS hss) (fun v1 hh1 A1 => ?_)
  rw [← eL] at A1
  obtain ⟨a1, kk1, rfl, st1⟩ := A1.as_strs
  refine Run 1000 ?_
  refine Fin_call 17 [I k, I n] (by kernel_rfl) (by kernel_rfl) (by
    have c := range_spec (X := AX2) (by kernel_rfl) k n hh1
    rw [hin] at c; exact c) (fun v2 hh2 hv2 => ?_)
  obtain ⟨rfl, rfl⟩ := hv2
  refine RunA 1000 1 ?_
  refine Fin_call 31 [I k, I n, .slice a1 L.length kk1] (by kernel_rfl) (by kernel_rfl) (by
    have c := code_spec (X := AX2) (by kernel_rfl) (by kernel_rfl) hh2 a1 kk1 L (by omega) st1 k n (by omega) (by omega)
    rw [hc] at c; exact c) (fun v3 hh3 hv3 => ?_)
  obtain ⟨rfl, rfl⟩ := hv3
  refine RunA 1000 1 ?_
  refine Fin_call 48 [I k, I n, .slice a1 L.length kk1] (by kernel_rfl) (by kernel_rfl) (by
    have c := chk_spec (X := AX2) (by kernel_rfl) overX2 k n hh3 a1 kk1 L (by omega) st1 (by kernel_rfl)
    rw [hop] at c; exact c) (fun v4 hh4 hv4 => ?_)
  obtain ⟨rfl, G4⟩ := hv4
  have s4 := st1.grow G4
  refine RunA 1000 5 ?_
  refine Fin_call 33 [I k, I n, .slice a1 L.length kk1] (by kernel_rfl) (by kernel_rfl) (clash_no (X := AX2) (by kernel_rfl) overX2 k n hh4 a1 kk1 L (by omega) s4 60 rfl hop (by kernel_rfl)) (fun v5 hh5 hv5 => ?_)
  obtain ⟨rfl, G5⟩ := hv5
  refine Run 1000 ?_
  refine Alloc 56 (by kernel_rfl) (by kernel_rfl) hd6 rfl ?_
  have G6 : Grew hh5 (hh5 ++ [AObj.row (Value.agg #[I 0, I 0, I 0]).cells.toList true]) := ⟨_, rfl⟩
  have r6 : (hh5 ++ [AObj.row (Value.agg #[I 0, I 0, I 0]).cells.toList true])[hh5.length]? = some (.row [I 0, I 0, I 0] true) := by rw [List.getElem?_append_right (Nat.le_refl _)]; simp [Value.cells]
  obtain ⟨h7, e7⟩ : ∃ h7, h7 = (hh5 ++ [AObj.row (Value.agg #[I 0, I 0, I 0]).cells.toList true]).set hh5.length (.row [I 0, I 0, I 0] true) := ⟨_, rfl⟩
  have hstore := store56 (x := 0) (y := 0) (z := 0) r6
  rw [← e7] at hstore
  have G7 : Grew hh5 h7 := by rw [e7]; exact G6.set (Nat.le_refl _) _
  have r7 : h7[hh5.length]? = some (.row [I 0, I 0, I 0] true) := by rw [e7]; exact List.getElem?_set_self (lt_of_get r6)
  have s7 := s4.grow (G5.trans G7)
  refine Run 1000 ?_
  refine Store 56 (.pointer (some ⟨hh5.length, 0, none⟩)) (.agg #[I 0, I 0, I 0]) h7 (by kernel_rfl) (by kernel_rfl) hstore ?_
  refine Run 1000 ?_
  refine PureV (.agg #[I 0, I 0, I 0]) (by kernel_rfl) (by kernel_rfl) (by kernel_rfl) ?_
  refine Run 1000 ?_
  refine Fin_call 46 [I k, I n, .slice a1 L.length kk1, .agg #[I 0, I 0, I 0]] (by kernel_rfl) (by kernel_rfl) (isclash_no (X := AX2) (by kernel_rfl) overX2 k n h7 a1 kk1 L (by omega) s7 60 rfl hop (by kernel_rfl) 0 0 0) (fun v8 hh8 hv8 => ?_)
  obtain ⟨rfl, G8⟩ := hv8
  have s8 := s7.grow G8
  refine Run 1000 ?_
  refine Fin_call 24 [I k, I n, .slice a1 L.length kk1, .string ⟨#[63]⟩] (by kernel_rfl) (by kernel_rfl) (reads_no (X := AX2) (by kernel_rfl) overX2 k n hh8 a1 kk1 L (by omega) s8 60 rfl hop (by kernel_rfl) (by kernel_rfl) _) (fun v9 hh9 hv9 => ?_)
  obtain ⟨rfl, G9⟩ := hv9
  have s9 := s8.grow G9
  refine Run 1000 ?_
  refine Fin_call 25 [I k, I n, .slice a1 L.length kk1, .string ⟨#[63]⟩] (by kernel_rfl) (by kernel_rfl) (cut_no (X := AX2) (by kernel_rfl) overX2 k n hh9 a1 kk1 L (by omega) s9 60 rfl hop (by kernel_rfl) (by kernel_rfl) _) (fun v10 hh10 hv10 => ?_)
  obtain ⟨rfl, G10⟩ := hv10
  have s10 := s9.grow G10
  refine Run 1000 ?_
  refine Fin_call 41 [I k, I n, .slice a1 L.length kk1] (by kernel_rfl) (by kernel_rfl) (grow_no (X := AX2) (by kernel_rfl) overX2 k n hh10 a1 kk1 L (by omega) s10 60 rfl hop (by kernel_rfl)) (fun v11 hh11 hv11 => ?_)
  obtain ⟨rfl, G11⟩ := hv11
  have r11 := (G8.trans (G9.trans (G10.trans G11))).at r7
  refine RunA 1000 30 ?_
  refine Load 56 (.pointer (some ⟨hh5.length, 0, none⟩)) (.agg #[I 0, I 0, I 0]) (by kernel_rfl) (by kernel_rfl) (load56 r11) ?_
  refine Run 1000 ?_
  refine PureV (.agg #[I 0, I 0, I 0]) (by kernel_rfl) (by kernel_rfl) (by kernel_rfl) ?_
  refine Run 1000 ?_
  refine Bin .neq 56 (.agg #[I 0, I 0, I 0]) (.agg #[I 0, I 0, I 0]) (.bool false) (by kernel_rfl) (by kernel_rfl) (by kernel_rfl) ?_
  refine RunA 1000 10 ?_
  refine Fin_call 22 [] (by kernel_rfl) (by kernel_rfl) (awake_ca2 hh11) (fun v20 hh20 hv20 => ?_)
  obtain ⟨rfl, rfl⟩ := hv20
  refine RunA 1000 10 ?_
  exact Fin_r (by kernel_rfl) ⟨Or.inr rfl, .bool true, by kernel_rfl, rfl⟩
set_option maxHeartbeats 2000000 in
theorem ck_ok (k n : Nat) (hin : inRange k n = true) (h : AHeap) (a : Option Addr) (kk : Nat) (S : List ByteArray) (hS : S.length ≤ 9223372036854775807) (hss : Strs h a S) (hc : codeF k n (ownF S) = true) :
    Ca Tryd.prog AX2 (.fn 14) [I k, I n, .slice a S.length kk] h (fun v _ => v = .bool true) := by
  obtain ⟨d6, hd6, _⟩ := ti56
  obtain ⟨L, eL⟩ : ∃ L, L = ownF S := ⟨_, rfl⟩
  have hlen : L.length ≤ 1100 := by rw [eL, ownF_length]; omega
  rw [← eL] at hc
  obtain ⟨i1, i2, i3, i4⟩ := inRange_iff.1 hin
  have hop : openF k n L = 0 := by
    unfold openF
    rw [if_pos hin]
    simp only [Int.toNat_natCast, hc, cod]
    rfl
  refine Ca_fn (fn := Tryd.f14) (c := Tryd.f14.body.getD .skip) (by kernel_rfl) (by kernel_rfl) (by kernel_rfl) (by kernel_rfl) ?_
  refine Run 1000 ?_
  refine Fin_call 44 [.slice a S.length kk] (by kernel_rfl) (by kernel_rfl) (own_spec (X := AX2) (by kernel_rfl) h a kk S hS hss) (fun v1 hh1 A1 => ?_)
  rw [← eL] at A1
  obtain ⟨a1, kk1, rfl, st1⟩ := A1.as_strs
  refine Run 1000 ?_
  refine Fin_call 17 [I k, I n] (by kernel_rfl) (by kernel_rfl) (by
    have c := range_spec (X := AX2) (by kernel_rfl) k n hh1
    rw [hin] at c; exact c) (fun v2 hh2 hv2 => ?_)
  obtain ⟨rfl, rfl⟩ := hv2
  refine RunA 1000 1 ?_
  refine Fin_call 31 [I k, I n, .slice a1 L.length kk1] (by kernel_rfl) (by kernel_rfl) (by
    have c := code_spec (X := AX2) (by kernel_rfl) (by kernel_rfl) hh2 a1 kk1 L (by omega) st1 k n (by omega) (by omega)
    rw [hc] at c; exact c) (fun v3 hh3 hv3 => ?_)
  obtain ⟨rfl, rfl⟩ := hv3
  refine RunA 1000 1 ?_
  refine Fin_call 48 [I k, I n, .slice a1 L.length kk1] (by kernel_rfl) (by kernel_rfl) (by
    have c := chk_spec (X := AX2) (by kernel_rfl) overX2 k n hh3 a1 kk1 L (by omega) st1 (by kernel_rfl)
    rw [hop] at c; exact c) (fun v4 hh4 hv4 => ?_)
  obtain ⟨rfl, G4⟩ := hv4
  refine RunA 1000 5 ?_
  refine Fin_call 22 [] (by kernel_rfl) (by kernel_rfl) (awake_ca2 hh4) (fun v20 hh20 hv20 => ?_)
  obtain ⟨rfl, rfl⟩ := hv20
  refine RunA 1000 10 ?_
  exact Fin_r (by kernel_rfl) ⟨Or.inr rfl, .bool true, by kernel_rfl, rfl⟩
/-- The law. -/
theorem ck_true (k n : Int) (h : AHeap) (a : Option Addr) (kk : Nat) (S : List ByteArray) (hS : S.length ≤ 9223372036854775807) (hss : Strs h a S) :
    Ca Tryd.prog AX2 (.fn 14) [I k, I n, .slice a S.length kk] h (fun v _ => v = .bool true) := by
  cases hin : inRange k n with
  | false => exact ck_range k n hin h a kk S hS hss
  | true =>
    obtain ⟨i1, i2, i3, i4⟩ := inRange_iff.1 hin
    obtain ⟨k, rfl⟩ : ∃ m : Nat, k = m := ⟨k.toNat, by omega⟩
    obtain ⟨n, rfl⟩ : ∃ m : Nat, n = m := ⟨n.toNat, by omega⟩
    cases hc : codeF k n (ownF S) with
    | false => exact ck_code k n hin h a kk S hS hss hc
    | true => exact ck_ok k n hin h a kk S hS hss hc
end Go.Proofs.YtpbmpdocgplhpaaDoor
