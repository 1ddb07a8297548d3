/-
  FlagEastman: the walk of the law.
-/
import Derived.Test.YtpbmpdocgplhpaaDoorEasPl
import Derived.Test.YtpbmpdocgplhpaaDoorSpJn
import Derived.Test.YtpbmpdocgplhpaaDoorGrl
import Derived.Test.YtpbmpdocgplhpaaDoorRdK
set_option linter.unusedSimpArgs false
set_option linter.unusedVariables false
set_option maxRecDepth 100000
namespace Go.Proofs.YtpbmpdocgplhpaaDoor
open Go Go.AM

def AX5 : Ext := fun f => bif Nat.beq f 22 then some awakeC else bif Nat.beq f 99 then some decC else bif Nat.beq f 78 then some sortC else bif Nat.beq f 82 then some splitC else bif Nat.beq f 87 then some joinC else none
theorem overX5 : OverX AX5 := ⟨by kernel_rfl, by kernel_rfl, by kernel_rfl, by kernel_rfl⟩
theorem awake_ca5 (h : AHeap) : Ca Tryd.prog AX5 (.fn 22) [] h (fun v h' => v = .bool true ∧ h' = h) :=
  Ca_ext (c := awakeC) (by kernel_rfl) rfl ⟨rfl, rfl⟩
theorem ax5_cases {f : FuncId} {c : List Value → AHeap → Option (Value × AHeap)} (hc : AX5 f = some c) : (f = 22 ∧ c = awakeC) ∨ (f = 99 ∧ c = decC) ∨ (f = 78 ∧ c = sortC) ∨ (f = 82 ∧ c = splitC) ∨ (f = 87 ∧ c = joinC) := by
  unfold AX5 at hc
  cases h1 : Nat.beq f 22 with
  | true => rw [h1] at hc; exact .inl ⟨Nat.eq_of_beq_eq_true h1, (Option.some.inj hc).symm⟩
  | false =>
    rw [h1, cond_false] at hc
    cases h2 : Nat.beq f 99 with
    | true => rw [h2] at hc; exact .inr (.inl ⟨Nat.eq_of_beq_eq_true h2, (Option.some.inj hc).symm⟩)
    | false =>
      rw [h2, cond_false] at hc
      cases h3 : Nat.beq f 78 with
      | true => rw [h3] at hc; exact .inr (.inr (.inl ⟨Nat.eq_of_beq_eq_true h3, (Option.some.inj hc).symm⟩))
      | false =>
        rw [h3, cond_false] at hc
        cases h4 : Nat.beq f 82 with
        | true => rw [h4] at hc; exact .inr (.inr (.inr (.inl ⟨Nat.eq_of_beq_eq_true h4, (Option.some.inj hc).symm⟩)))
        | false =>
          rw [h4, cond_false] at hc
          cases h5 : Nat.beq f 87 with
          | true => rw [h5] at hc; exact .inr (.inr (.inr (.inr ⟨Nat.eq_of_beq_eq_true h5, (Option.some.inj hc).symm⟩)))
          | false => rw [h5, cond_false] at hc; simp at hc
theorem kp5 : ExtKp AX5 := by
  intro f c hc args h v h' hr
  rcases ax5_cases hc with ⟨_, rfl⟩ | ⟨_, rfl⟩ | ⟨_, rfl⟩ | ⟨_, rfl⟩ | ⟨_, rfl⟩
  · exact awakeC_kp hr
  · exact decC_kp hr
  · exact sortC_kp hr
  · exact splitC_kp hr
  · exact joinC_kp hr
theorem growX5 : GrowXX AX5 := ⟨⟨kp5, by kernel_rfl, by kernel_rfl, by kernel_rfl, by kernel_rfl⟩, overX5, by kernel_rfl, by kernel_rfl, by kernel_rfl, by kernel_rfl, by kernel_rfl, by kernel_rfl⟩
theorem sortX5 : SortX AX5 := by
  refine ⟨fun h b kk L hb hL => ?_, by kernel_rfl, by kernel_rfl⟩
  refine Ca_ext (c := sortC) (by kernel_rfl) (v := .tuple #[]) (h' := h.set b (.row (strs (sortM ltS L)) true)) ?_ rfl
  simp only [sortC, hb, strsOf_strs]
  rw [if_pos ⟨trivial, by omega⟩, sortB_eq]
theorem ringX5 : RingX AX5 := ⟨sortX5, by kernel_rfl, by kernel_rfl, by kernel_rfl, by kernel_rfl, by kernel_rfl, by kernel_rfl, by kernel_rfl⟩
theorem chosX5 : ChosX AX5 := ⟨⟨by kernel_rfl, by kernel_rfl, by kernel_rfl, by kernel_rfl, by kernel_rfl, by kernel_rfl⟩, by kernel_rfl, by kernel_rfl, by kernel_rfl, by kernel_rfl, by kernel_rfl, by kernel_rfl, by kernel_rfl, by kernel_rfl⟩
theorem makeX5 : MakeX AX5 := ⟨chosX5, ringX5, by kernel_rfl, by kernel_rfl, by kernel_rfl, by kernel_rfl, by kernel_rfl⟩

/-- What the plain facts tell of a made code. -/
structure MadeOK (k n : Nat) (M : List ByteArray) : Prop where
  code : codeF k n M = true
  free : freeF M = true
  len : M.length = (ringsL k n).length
  words : ∀ w ∈ ringsF k n, asciiB w = true ∧ w.size < 1000000 ∧ goodGo 4 (Lib.charsB w) = true
theorem made_facts {k b : Nat} (h1 : 1 ≤ k) (h2 : k ≤ 4) (hb : b < 2) : MadeOK k (2 * b + 1) (madeF (ringsF k (2 * b + 1))) := by
  have h := made_13
  rw [List.all_eq_true] at h
  have h := h (k - 1) (by simp; omega)
  rw [List.all_eq_true] at h
  have h := h b (by simp; omega)
  rw [show k - 1 + 1 = k by omega] at h
  unfold madeOK at h
  simp only [Bool.and_eq_true, Nat.beq_eq] at h
  rw [← madeF_eq] at h
  obtain ⟨h3, ⟨h4, h5⟩, h6⟩ := h
  refine ⟨h4, h5, h6, fun w hw => ?_⟩
  have := List.all_eq_true.1 h3 w hw
  unfold wordOK at this
  simp only [Bool.and_eq_true, decide_eq_true_eq] at this
  exact ⟨this.1.1, this.1.2, this.2⟩
def oddN (n : Int) : Int := IntKind.wrap .i64 (1 + IntKind.wrap .i64 (2 * IntKind.wrap .i64 (Int.tmod (IntKind.wrap .u64 n) 2)))
theorem odd_in (n : Int) : ∃ b : Nat, b < 2 ∧ oddN n = (2 * b + 1 : Nat) := by
  have h1 : 0 ≤ IntKind.wrap .u64 n := by simp [IntKind.wrap, IntKind.bits, IntKind.signed]; omega
  have h2 : Int.tmod (IntKind.wrap .u64 n) 2 = (IntKind.wrap .u64 n) % 2 := Int.tmod_eq_emod_of_nonneg h1
  have h3 := Int.emod_nonneg (IntKind.wrap .u64 n) (show (2 : Int) ≠ 0 by omega)
  have h4 := Int.emod_lt_of_pos (IntKind.wrap .u64 n) (show (0 : Int) < 2 by omega)
  refine ⟨((IntKind.wrap .u64 n) % 2).toNat, by omega, ?_⟩
  unfold oddN
  rw [h2, wrap_small (n := (IntKind.wrap .u64 n) % 2) h3 (by omega), wrap_small (n := 2 * ((IntKind.wrap .u64 n) % 2)) (by omega) (by omega), wrap_small (by omega) (by omega)]
  omega
set_option maxHeartbeats 1000000 in
theorem ea_walk (k0 n0 : Int) (k n : Nat) (ek : norm 4 k0 = k) (en : oddN n0 = n) (hin : inRange k n = true) (hodd : n % 2 = 1) (hcr : countRings k n = (((ringsL k n).length : Int), (0 : Int))) (h : AHeap) (hz : h[0]? = some noneRow) (M : List ByteArray) (eM : M = madeF (ringsF k n)) (m : MadeOK k n M) :
    Ca Tryd.prog AX5 (.fn 13) [I k0, I n0] h (fun v _ => v = .bool true) := by
  obtain ⟨i1, i2, i3, i4⟩ := inRange_iff.1 hin
  have cm := make_spec makeX5 k n hin hodd m.words h
  rw [← eM] at cm
  obtain ⟨w1, w2, _⟩ := code_to m.code
  have g : GrowOK k n M := ⟨w1, rising_nodup w2, m.free⟩
  have hgs := growF_same g m.len (by omega) (by omega) (by omega)
  have hsb := sortB_id w2
  have hMl : M.length < 10000 := by
    have h81 : ∀ k : Fin 5, ∀ n : Fin 6, (ringsL k n).length < 10000 := by decide +kernel
    rw [m.len]; exact h81 ⟨k, by omega⟩ ⟨n, by omega⟩
  have ccr : ∀ h, Ca Tryd.prog AX5 (.fn 16) [I k, I n] h (fun v h' => v = .tuple #[I M.length, I 0] ∧ Grew h h') := by
    intro h
    have c := cr_spec (X := AX5) (by kernel_rfl) k n h
    rw [hcr, ← m.len] at c
    exact c
  obtain ⟨d6, hd6, _⟩ := ti56
  refine Ca_fn (fn := Tryd.f13) (c := Tryd.f13.body.getD .skip) (by kernel_rfl) (by kernel_rfl) (by kernel_rfl) (by kernel_rfl) ?_
  refine Run 1000 ?_
  refine Fin_call 47 [I (norm 4 k0), I (oddN n0)] (by kernel_rfl) (by kernel_rfl) (by
    rw [show norm 4 k0 = k from ek, show oddN n0 = n from en]; exact cm) (fun v1 h1 hv1 => ?_)
  obtain ⟨v, rfl, g1, hnil⟩ := hv1
  have G1 := g1.1
  obtain ⟨a, kk, rfl, s1⟩ := g1.strs
  have hnil' : M = [] → a = none := fun e => by
    have := hnil e
    simp only [Value.slice.injEq] at this; exact this.1
  have z1 := G1.at hz
  refine Run 1000 ?_
  refine Fin_call 16 [I (norm 4 k0), I (oddN n0)] (by kernel_rfl) (by kernel_rfl) (by
    rw [show norm 4 k0 = k from ek, show oddN n0 = n from en]; exact ccr h1) (fun v2 h2 hv2 => ?_)
  obtain ⟨rfl, G2⟩ := hv2
  have s2 := s1.grow G2
  have z2 := G2.at z1
  refine Run 1000 ?_
  refine Fin_call 41 [I (norm 4 k0), I (oddN n0), .slice a M.length kk] (by kernel_rfl) (by kernel_rfl) (by
    rw [show norm 4 k0 = k from ek, show oddN n0 = n from en]
    have c := grow_c growX5 (by kernel_rfl) (by kernel_rfl) (by kernel_rfl) k n hin h2 a kk M hMl s2 hnil' m.code z2 g
    rw [hgs, hsb] at c
    exact c) (fun v3 h3 hv3 => ?_)
  obtain ⟨v, rfl, g3⟩ := hv3
  have G3 := g3.1
  obtain ⟨ag, kg, rfl, sg⟩ := g3.strs
  have s3 := s2.grow G3
  have z3 := G3.at z2
  refine Run 1000 ?_
  refine Fin_call 33 [I (norm 4 k0), I (oddN n0), .slice a M.length kk] (by kernel_rfl) (by kernel_rfl) (by
    rw [show norm 4 k0 = k from ek, show oddN n0 = n from en]
    exact Clash_spec (X := AX5) (by kernel_rfl) (by kernel_rfl) (by kernel_rfl) overX5 k n hin h3 a kk M (by omega) s3 m.code z3) (fun v4 h4 hv4 => ?_)
  obtain ⟨⟨res, rfl, hR⟩, G4⟩ := hv4
  have hfree := trio_facts (fun w h => (w1 w h).1) res hR
  rw [m.free] at hfree
  have hres : res = none := by cases res with | none => rfl | some r => simp at hfree
  subst hres
  have s4 := s3.grow G4
  have sg4 := sg.grow G4
  refine Run 1000 ?_
  refine Alloc 56 (by kernel_rfl) (by kernel_rfl) hd6 rfl ?_
  have G5 : Grew h4 (h4 ++ [AObj.row (Value.agg #[I 0, I 0, I 0]).cells.toList true]) := ⟨_, rfl⟩
  have r5 : (h4 ++ [AObj.row (Value.agg #[I 0, I 0, I 0]).cells.toList true])[h4.length]? = some (.row [I 0, I 0, I 0] true) := by rw [List.getElem?_append_right (Nat.le_refl _)]; simp [Value.cells]
  obtain ⟨h5, e5⟩ : ∃ h5, h5 = h4 ++ [AObj.row (Value.agg #[I 0, I 0, I 0]).cells.toList true] := ⟨_, rfl⟩
  rw [← e5] at r5 G5 ⊢
  refine Run 1000 ?_
  obtain ⟨h6, e6⟩ : ∃ h6, h6 = h5.set h4.length (.row [I 0, I 0, I 0] true) := ⟨_, rfl⟩
  have est : astore Tryd.prog h5 56 (.pointer (some ⟨h4.length, 0, none⟩)) (.agg #[I 0, I 0, I 0]) = some h6 := by rw [e6]; exact store56 r5
  have G6 : Grew h4 h6 := by rw [e6]; exact G5.set (Nat.le_refl _) _
  have s6 := s4.grow G6
  have sg6 := sg4.grow G6
  refine Store 56 (.pointer (some ⟨h4.length, 0, none⟩)) (.agg #[I 0, I 0, I 0]) h6 (by kernel_rfl) (by kernel_rfl) est ?_
  refine RunA 1000 5 ?_
  refine Fin_gB true (by kernel_rfl) (Eq.trans (b := .bool ((M.length : Int) == (M.length : Int))) (by kernel_rfl) (by rw [beq_self_eq_true])) ?_
  refine RunA 1000 1 ?_
  refine Fin_call 18 [.slice ag M.length kg, .slice a M.length kk] (by kernel_rfl) (by kernel_rfl) (by
    have c := texts_spec (X := AX5) (by kernel_rfl) h6 ag a kg kk M M (by omega) sg6 s6
    rw [textsF_same] at c; exact c) (fun v7 h7 hv7 => ?_)
  obtain ⟨rfl, rfl⟩ := hv7
  refine RunA 1000 1 ?_
  refine Fin_call 22 [] (by kernel_rfl) (by kernel_rfl) (awake_ca5 h7) (fun v8 h8 hv8 => ?_)
  obtain ⟨rfl, rfl⟩ := hv8
  refine RunA 1000 10 ?_
  exact Fin_r (by kernel_rfl) ⟨Or.inr rfl, .bool true, by kernel_rfl, rfl⟩
theorem ea_true (k0 n0 : Int) : Ca Tryd.prog AX5 (.fn 13) [I k0, I n0] H0 (fun v _ => v = .bool true) := by
  obtain ⟨k, k1, k4, ek⟩ := norm_in 4 (by omega) (by omega) k0
  obtain ⟨b, hb, en⟩ := odd_in n0
  have hin : inRange k ((2 * b + 1 : Nat)) = true := inRange_iff.2 (by omega)
  have hg := gol_ok (k := k) (m := 2 * b + 1) k1 (by omega) (by omega) (by omega)
  unfold golOK at hg
  rw [Bool.and_eq_true] at hg
  have hg := hg.2
  rw [hin] at hg
  simp only [Bool.not_true, Bool.false_or, Bool.and_eq_true, beq_iff_eq] at hg
  exact ea_walk k0 n0 k (2 * b + 1) ek en hin (by omega) (Prod.ext hg.1.symm hg.2) H0 (by kernel_rfl) _ rfl (made_facts k1 k4 hb)
end Go.Proofs.YtpbmpdocgplhpaaDoor
