/-
  TopRounds: the callees' contracts out of the kernel's runs; the law.
-/
import Derived.Test.YtpbmpdocgplhpaaGreatDoorRl2
set_option linter.unusedSimpArgs false
set_option linter.unusedVariables false
set_option maxRecDepth 100000
namespace Go.Proofs.YtpbmpdocgplhpaaGreatDoor
open Go Go.AM Go.AMT

theorem some5_all {l : List Bool} (h1 : 1 ≤ l.length) (h4 : l.length ≤ 4) : l ∈ some5 := by
  have := bitsN_all l
  unfold some5
  simp only [List.mem_append]
  have hc : l.length = 1 ∨ l.length = 2 ∨ l.length = 3 ∨ l.length = 4 := by omega
  rcases hc with e | e | e | e <;> rw [e] at this
  · exact Or.inl this
  · exact Or.inr (Or.inl this)
  · exact Or.inr (Or.inr (Or.inl this))
  · exact Or.inr (Or.inr (Or.inr this))
theorem of_runs {p : List Bool → Bool} (ha : some5.all p = true) (hb : (bitsN 5).all p = true) (l : List Bool) (h1 : 1 ≤ l.length) (h5 : l.length ≤ 5) : p l = true := by
  by_cases h : l.length = 5
  · have := bitsN_all l
    rw [h] at this
    exact List.all_eq_true.1 hb l this
  · exact List.all_eq_true.1 ha l (some5_all h1 (by omega))
theorem run10b : (bitsN 5).all all10 = true := by
  have e : bitsN 5 = (bitsN 5).take 8 ++ (((bitsN 5).drop 8).take 8 ++ (((bitsN 5).drop 16).take 8 ++ (bitsN 5).drop 24)) := by kernel_rfl
  rw [e]
  simp only [List.all_append, run10b1, run10b2, run10b3, run10b4, Bool.and_self]

theorem isStr_eq {v : Value} {l : List UInt8} (h : isStr v l = true) : v = .string (S l) := by
  unfold isStr at h
  split at h
  · rename_i s
    rw [beq_iff_eq] at h
    rw [← h, S_of]
  · simp at h
theorem isTide_eq {v : Value} {a b : List UInt8} (h : isTide v a b = true) : v = .agg #[.string (S a), .string (S b)] := by
  unfold isTide at h
  split at h
  · rename_i xs
    split at h
    · rename_i x y hx
      simp only [Bool.and_eq_true] at h
      rw [isStr_eq h.1, isStr_eq h.2] at hx
      congr 1
      apply Array.toList_inj.1; rw [hx]
    · simp at h
  · simp at h
theorem isZero_eq {v : Value} (h : isZero v = true) : v = .int .i64 0 := by
  unfold isZero at h
  split at h
  · rename_i n
    have := Nat.eq_of_beq_eq_true h
    subst this; rfl
  · simp at h
theorem run_of {f : FuncId} {args : List Value} {v : Value} {th : TH} (h : acallT Tryz.prog AXRT nc 300 (.fn f) args (TH.ofL H0) = some (v, th)) : acall Tryz.prog AXR 300 (.fn f) args H0 = some (v, th.toL) := by
  have := acallT_t AXRT_ok calm_all 300 _ _ _ _ _ h
  rwa [TH.toL_ofL] at this
theorem tup2 {xs : Array Value} {a b : Value} (h : xs.toList = [a, b]) : xs = #[a, b] := by
  apply Array.toList_inj.1; rw [h]
theorem r7 (l : List Bool) (h1 : 1 ≤ l.length) (h5 : l.length ≤ 5) : ∃ h', acall Tryz.prog AXR 300 (.fn 7) [.string (S (wl l))] H0 = some (.tuple #[.bool (Nat.beq (perF l) l.length), .int .i64 0], h') := by
  have h := of_runs run7a run7b l h1 h5
  unfold is7 at h
  split at h
  · rename_i xs th hr
    split at h
    · rename_i b n hx
      simp only [Bool.and_eq_true, beq_iff_eq] at h
      rw [isZero_eq h.2, h.1] at hx
      obtain rfl := tup2 hx
      exact ⟨_, run_of hr⟩
    · simp at h
  · simp at h
theorem r8 (l : List Bool) (h1 : 1 ≤ l.length) (h5 : l.length ≤ 5) : ∃ a k h', acall Tryz.prog AXR2 300 (.fn 8) [.string (S (wl l))] H0 = some (.tuple #[.slice a (perF l) k, .int .i64 0], h') := by
  have h := of_runs run8a run8b l h1 h5
  unfold is8 at h
  split at h
  · rename_i xs th hr
    split at h
    · rename_i a n k z hx
      simp only [Bool.and_eq_true] at h
      rw [isZero_eq h.2, Nat.eq_of_beq_eq_true h.1] at hx
      obtain rfl := tup2 hx
      have := acallT_t AXR2T_ok calm_all 300 _ _ _ _ _ hr
      rw [TH.toL_ofL] at this
      exact ⟨a, k, _, this⟩
    · simp at h
  · simp at h
theorem r9 (l : List Bool) (h1 : 1 ≤ l.length) (h5 : l.length ≤ 5) : ∃ h', acall Tryz.prog AXR 300 (.fn 9) [.agg #[.string (S []), .string (S (bl l))]] H0 = some (.tuple #[.agg #[.string (S []), .string (S (bl (roundF l)))], .int .i64 0], h') := by
  have h := of_runs run9a run9b l h1 h5
  unfold is9 at h
  split at h
  · rename_i xs th hr
    split at h
    · rename_i t z hx
      simp only [Bool.and_eq_true] at h
      rw [isZero_eq h.2, isTide_eq h.1] at hx
      obtain rfl := tup2 hx
      exact ⟨_, run_of hr⟩
    · simp at h
  · simp at h
theorem r10 (l : List Bool) (k : Nat) (h1 : 1 ≤ l.length) (h5 : l.length ≤ 5) (hp : perF l = l.length) (hk : k < 5) : ∃ h', acall Tryz.prog AXR 300 (.fn 10) [.agg #[.string (S []), .string (S (bl l))], .int .i64 (.ofNat k)] H0 = some (.tuple #[.agg #[.string (S (bl (laterA l k))), .string (S (bl (laterB l k)))], .int .i64 0], h') := by
  have h := of_runs run10a run10b l h1 h5
  unfold all10 at h
  rw [hp, Nat.beq_refl, cond_true] at h
  have h := List.all_eq_true.1 h k (List.mem_range.2 hk)
  unfold is10 at h
  split at h
  · rename_i xs th hr
    split at h
    · rename_i t z hx
      simp only [Bool.and_eq_true] at h
      rw [isZero_eq h.2, isTide_eq h.1] at hx
      obtain rfl := tup2 hx
      exact ⟨_, run_of hr⟩
    · simp at h
  · simp at h
theorem r5 : ∃ h', acall Tryz.prog AXR 300 (.fn 5) [] H0 = some (.bool true, h') := by
  have h := run5
  unfold is5 at h
  split at h
  · rename_i b th hr
    subst h
    exact ⟨_, run_of hr⟩
  · simp at h

theorem free_ok {W : World} (St : Go.AM.Start Tryz.prog (rhoG Tryz.prog.globals.size) H0 W) {f : FuncId} {p : List Value → Option Value} (hp : ∀ args v, p args = some v → (∃ h', acall Tryz.prog AXR 300 (.fn f) args H0 = some (v, h')) ∧ args.all (fun v => scalarOK v || (match v with | .agg b => b.toList.all scalarOK | _ => false)) = true ∧ plainOK v = true)
    {ρ : Rho} {h h' : AHeap} {w : World} {args : List Value} {args' : Array Value} {v : Value} (hr : free p args h = some (v, h')) (H : HRel GN ρ h w) (K : Kept GN W w) (ha : LRel ρ args args'.toList) : FnOK Tryz.prog GN ρ h w f args' v h' := by
  unfold free at hr
  split at hr
  · rename_i v0 hv
    simp only [Option.some.injEq, Prod.mk.injEq] at hr
    obtain ⟨rfl, rfl⟩ := hr
    obtain ⟨⟨h1, q1⟩, q2, q3⟩ := hp args v0 hv
    exact FnOK_plain mixed progOK' St AXR_ok q1 q2 q3 H K ha
  · simp at hr
theorem p5_ok : ∀ args v, p5 args = some v → (∃ h', acall Tryz.prog AXR 300 (.fn 5) args H0 = some (v, h')) ∧ args.all (fun v => scalarOK v || (match v with | .agg b => b.toList.all scalarOK | _ => false)) = true ∧ plainOK v = true := by
  intro args v h
  unfold p5 at h
  split at h
  · simp only [Option.some.injEq] at h; subst h; exact ⟨r5, rfl, rfl⟩
  · simp at h
theorem p7_ok : ∀ args v, p7 args = some v → (∃ h', acall Tryz.prog AXR 300 (.fn 7) args H0 = some (v, h')) ∧ args.all (fun v => scalarOK v || (match v with | .agg b => b.toList.all scalarOK | _ => false)) = true ∧ plainOK v = true := by
  intro args v h
  unfold p7 at h
  split at h
  · rename_i s
    split at h
    · rename_i l hl
      split at h
      · rename_i hc
        simp only [Option.some.injEq] at h; subst h
        have e := unA_spec hl
        have e2 : s = S (wl l) := by rw [← S_of s, e]; rfl
        rw [e2]
        exact ⟨r7 l hc.1 hc.2, rfl, rfl⟩
      · simp at h
    · simp at h
  · simp at h
theorem two_str {xs : Array Value} {a b : ByteArray} (h : xs.toList = [.string a, .string b]) : xs = #[.string a, .string b] := by
  apply Array.toList_inj.1; rw [h]
theorem p9_ok : ∀ args v, p9 args = some v → (∃ h', acall Tryz.prog AXR 300 (.fn 9) args H0 = some (v, h')) ∧ args.all (fun v => scalarOK v || (match v with | .agg b => b.toList.all scalarOK | _ => false)) = true ∧ plainOK v = true := by
  intro args v h
  unfold p9 at h
  split at h
  · rename_i xs
    split at h
    · rename_i a b hx
      obtain rfl := two_str hx
      split at h
      · rename_i ha
        split at h
        · rename_i l hl
          split at h
          · rename_i hc
            simp only [Option.some.injEq] at h; subst h
            have e2 : b = S (bl l) := by rw [← S_of b, unA_spec hl]; rfl
            have e1 : a = S [] := by rw [← S_of a, ha]
            rw [e1, e2]
            exact ⟨r9 l hc.1 hc.2, rfl, rfl⟩
          · simp at h
        · simp at h
      · simp at h
    · simp at h
  · simp at h
theorem p10_ok : ∀ args v, p10 args = some v → (∃ h', acall Tryz.prog AXR 300 (.fn 10) args H0 = some (v, h')) ∧ args.all (fun v => scalarOK v || (match v with | .agg b => b.toList.all scalarOK | _ => false)) = true ∧ plainOK v = true := by
  intro args v h
  unfold p10 at h
  split at h
  · rename_i xs k
    split at h
    · rename_i a b hx
      obtain rfl := two_str hx
      split at h
      · rename_i ha
        split at h
        · rename_i l hl
          split at h
          · rename_i hc
            simp only [Option.some.injEq] at h; subst h
            have e2 : b = S (bl l) := by rw [← S_of b, unA_spec hl]; rfl
            have e1 : a = S [] := by rw [← S_of a, ha]
            rw [e1, e2]
            exact ⟨r10 l k hc.1 hc.2.1 hc.2.2.1 hc.2.2.2, rfl, rfl⟩
          · simp at h
        · simp at h
      · simp at h
    · simp at h
  · simp at h
theorem AXR2_ok {W : World} (St : Go.AM.Start Tryz.prog (rhoG Tryz.prog.globals.size) H0 W) : ExtOK Tryz.prog W AXR2 := by
  intro f c hc args h v h' hr ρ w args' H K ha
  unfold AXR2 at hc
  cases h5 : Nat.beq f 5 with
  | true => obtain rfl := Nat.eq_of_beq_eq_true h5; rw [h5] at hc; simp only [cond_true, Option.some.injEq] at hc; subst hc; exact free_ok St p5_ok hr H K ha
  | false =>
  rw [h5] at hc; simp only [cond_false] at hc
  cases h7 : Nat.beq f 7 with
  | true => obtain rfl := Nat.eq_of_beq_eq_true h7; rw [h7] at hc; simp only [cond_true, Option.some.injEq] at hc; subst hc; exact free_ok St p7_ok hr H K ha
  | false =>
  rw [h7] at hc; simp only [cond_false] at hc
  cases h9 : Nat.beq f 9 with
  | true => obtain rfl := Nat.eq_of_beq_eq_true h9; rw [h9] at hc; simp only [cond_true, Option.some.injEq] at hc; subst hc; exact free_ok St p9_ok hr H K ha
  | false =>
  rw [h9] at hc; simp only [cond_false] at hc
  cases h10 : Nat.beq f 10 with
  | true => obtain rfl := Nat.eq_of_beq_eq_true h10; rw [h10] at hc; simp only [cond_true, Option.some.injEq] at hc; subst hc; exact free_ok St p10_ok hr H K ha
  | false => rw [h10] at hc; exact AXR_ok f c hc args h v h' hr ρ w args' H K ha
theorem p9_at (l : List Bool) (h1 : 1 ≤ l.length) (h5 : l.length ≤ 5) : p9 [tideV .empty (S (bl l))] = some (.tuple #[tideV .empty (S (bl (roundF l))), I 0]) := by
  have e : unA 48 49 (S (bl l)).data.toList = some l := unA_of (by decide) l
  unfold p9
  simp only [e]
  rw [if_pos (by rfl), if_pos ⟨h1, h5⟩]; rfl
theorem p10_at (l : List Bool) (k : Nat) (h1 : 1 ≤ l.length) (h5 : l.length ≤ 5) (hp : perF l = l.length) (hk : k < 5) : p10 [tideV .empty (S (bl l)), I k] = some (.tuple #[tideV (S (bl (laterA l k))) (S (bl (laterB l k))), I 0]) := by
  have e : unA 48 49 (S (bl l)).data.toList = some l := unA_of (by decide) l
  show p10 [tideV .empty (S (bl l)), .int .i64 (.ofNat k)] = _
  unfold p10
  simp only [e]
  rw [if_pos (by rfl), if_pos ⟨h1, h5, hp, hk⟩]
theorem rx : RX AXR2 where
  x6 := by rfl
  x3 := by rfl
  x11 := by rfl
  x33 := by rfl
  x36 := by rfl
  x31 := by rfl
  trim := fun s h hs => Ca_ext (c := trimC) (by rfl) (by unfold trimC; simp only []; rw [if_pos ⟨by decide, by decide, by omega⟩]) ⟨rfl, rfl⟩
  c5 := fun h => Ca_ext (c := free p5) (by rfl) rfl ⟨rfl, rfl⟩
  c7 := fun l h h1 h5 => by
    have e : unA 97 98 (S (wl l)).data.toList = some l := unA_of (by decide) l
    refine Ca_ext (c := free p7) (by rfl) (v := .tuple #[.bool (Nat.beq (perF l) l.length), I 0]) (h' := h) ?_ ⟨rfl, rfl⟩
    unfold free p7
    simp only [e]
    rw [if_pos ⟨h1, h5⟩]
  c8 := fun l h1 h5 => by
    obtain ⟨a, k, h', hr⟩ := r8 l h1 h5
    exact Ca_run hr ⟨a, k, rfl⟩
  c9 := fun l h h1 h5 => by
    refine Ca_ext (c := free p9) (by rfl) (v := .tuple #[tideV .empty (S (bl (roundF l))), I 0]) (h' := h) ?_ ⟨rfl, rfl⟩
    unfold free
    rw [p9_at l h1 h5]
  c10 := fun l k h h1 h5 hp hk => by
    refine Ca_ext (c := free p10) (by rfl) (v := .tuple #[tideV (S (bl (laterA l k))) (S (bl (laterB l k))), I 0]) (h' := h) ?_ ⟨rfl, rfl⟩
    unfold free
    rw [p10_at l k h1 h5 hp hk]
theorem okLK_all : ((bitsN 0 ++ some5 ++ bitsN 5).all fun l => (List.range l.length).all (okLK l)) = true := by kernel_rfl
end Go.Proofs.YtpbmpdocgplhpaaGreatDoor
