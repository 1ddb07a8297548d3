/-
  Words of a comma-free code, put one after the other, are read in one way: plain.
-/
import Derived.Test.YtpbmpdocgplhpaaDoorClPl
import Derived.Test.YtpbmpdocgplhpaaDoorMI
set_option linter.unusedSimpArgs false
set_option linter.unusedVariables false
set_option maxRecDepth 100000
namespace Go.Proofs.YtpbmpdocgplhpaaDoor
open Go Go.AM

/-- The law's free. -/
def freeGo : List ByteArray → List ByteArray → List ByteArray
  | [], out => out
  | w :: L, out => freeGo L (bif freeF (withS out w) then withS out w else out)
theorem rising_nd {L : List ByteArray} (h : Rising L) : L.Nodup := by
  refine List.Pairwise.imp ?_ h
  intro a b hab e
  subst e
  rw [lt_irrefl] at hab; simp at hab
theorem free_ok {k n : Nat} : ∀ (L out : List ByteArray), (∀ w ∈ L, w.size = n ∧ overF k w = true) → L.Nodup → (∀ w ∈ L, w ∉ out) → (∀ w ∈ out, w.size = n ∧ overF k w = true) → Rising out → freeF out = true →
    (∀ w ∈ freeGo L out, w.size = n ∧ overF k w = true) ∧ Rising (freeGo L out) ∧ freeF (freeGo L out) = true ∧ (freeGo L out).length ≤ out.length + L.length := by
  intro L
  induction L with
  | nil => intro out h1 h2 h3 h4 h5 h6; exact ⟨h4, h5, h6, by simp [freeGo]⟩
  | cons w L ih =>
    intro out h1 h2 h3 h4 h5 h6
    rw [List.nodup_cons] at h2
    simp only [freeGo]
    cases hf : freeF (withS out w) with
    | false =>
      rw [cond_false]
      obtain ⟨a, b, c, d⟩ := ih out (fun x hx => h1 x (List.mem_cons_of_mem _ hx)) h2.2 (fun x hx => h3 x (List.mem_cons_of_mem _ hx)) h4 h5 h6
      exact ⟨a, b, c, by simp only [List.length_cons]; omega⟩
    | true =>
      rw [cond_true]
      obtain ⟨a, b, c, d⟩ := ih (withS out w) (fun x hx => h1 x (List.mem_cons_of_mem _ hx)) h2.2 (fun x hx hm => by
          rcases mem_withS.1 hm with hm | rfl
          · exact h3 x (List.mem_cons_of_mem _ hx) hm
          · exact h2.1 hx) (fun x hx => by
          rcases mem_withS.1 hx with hx | rfl
          · exact h4 x hx
          · exact h1 _ (List.mem_cons_self ..)) (withS_rising h5 (h3 w (List.mem_cons_self ..))) hf
      exact ⟨a, b, c, by rw [withS_length] at d; simp only [List.length_cons]; omega⟩

/-- Words put one after the other. -/
def tl (s : ByteArray) : List UInt8 := s.data.toList
def flat (ws : List ByteArray) : List UInt8 := (ws.map tl).flatten
theorem flat_cons (w : ByteArray) (ws : List ByteArray) : flat (w :: ws) = tl w ++ flat ws := by simp [flat]
theorem flat_snoc (ws : List ByteArray) (w : ByteArray) : flat (ws ++ [w]) = flat ws ++ tl w := by simp [flat]
theorem tl_length (s : ByteArray) : (tl s).length = s.size := (Lib.size_eq s).symm
theorem flatN {n : Nat} : ∀ {ws : List ByteArray}, (∀ w ∈ ws, w.size = n) → (flat ws).length = ws.length * n := by
  intro ws
  induction ws with
  | nil => intro _; simp [flat]
  | cons w ws ih =>
    intro h
    rw [flat_cons, List.length_append, tl_length, h w (List.mem_cons_self ..), ih (fun x hx => h x (List.mem_cons_of_mem _ hx)), List.length_cons, Nat.succ_mul]; omega
theorem ext_tl (s : ByteArray) (i j : Nat) : tl (s.extract i j) = ((tl s).take j).drop i := extract_list s i j

theorem pcs_flat {n : Nat} (hn : 1 ≤ n) (s : ByteArray) : ∀ (ws : List ByteArray) (A : List UInt8) (t : Nat), tl s = A ++ flat ws → (∀ w ∈ ws, w.size = n) → ws.length < t → pcs s n t A.length = ws := by
  intro ws
  induction ws with
  | nil =>
    intro A t hs hw ht
    obtain ⟨t, rfl⟩ : ∃ t', t = t' + 1 := ⟨t - 1, by simp at ht; omega⟩
    have h := congrArg List.length hs
    rw [tl_length] at h
    simp [flat] at h
    simp only [pcs]
    rw [if_neg (by omega)]
  | cons w ws ih =>
    intro A t hs hw ht
    obtain ⟨t, rfl⟩ : ∃ t', t = t' + 1 := ⟨t - 1, by simp at ht; omega⟩
    have hwn : w.size = n := hw w (List.mem_cons_self ..)
    have h := congrArg List.length hs
    rw [tl_length, List.length_append, flat_cons, List.length_append, tl_length, hwn] at h
    rw [flat_cons, ← List.append_assoc] at hs
    simp only [pcs]
    rw [if_pos (by omega)]
    have e1 : s.extract A.length (A.length + n) = w := by
      apply list_inj
      show tl _ = tl _
      rw [ext_tl, hs, List.take_append_of_le_length (by rw [List.length_append, tl_length]; omega), List.take_of_length_le (by rw [List.length_append, tl_length]; omega), List.drop_left]
    rw [e1]
    have := ih (A ++ tl w) t hs (fun x hx => hw x (List.mem_cons_of_mem _ hx)) (by simp only [List.length_cons] at ht; omega)
    rw [List.length_append, tl_length, hwn] at this
    rw [this]
theorem le_flat {n : Nat} (hn : 1 ≤ n) {ws : List ByteArray} (h : ∀ w ∈ ws, w.size = n) : ws.length ≤ (flat ws).length := by
  rw [flatN h]; exact Nat.le_mul_of_pos_right _ hn

section
variable {L : List ByteArray} {n k : Nat} (hw : ∀ w ∈ L, w.size = n ∧ overF k w = true) (hn : 1 ≤ n) (hf : freeF L = true)
include hw hn
omit hn in
theorem flat_over {ws : List ByteArray} (hws : ∀ w ∈ ws, w ∈ L) {s : ByteArray} (hs : tl s = flat ws) : overF k s = true := by
  unfold overF
  show (tl s).all _ = true
  rw [hs, List.all_eq_true]
  intro c hc
  unfold flat at hc
  rw [List.mem_flatten] at hc
  obtain ⟨l, hl, hc⟩ := hc
  rw [List.mem_map] at hl
  obtain ⟨w, hw', rfl⟩ := hl
  have := (hw w (hws w hw')).2
  unfold overF at this
  exact List.all_eq_true.1 this c hc
theorem ok_flat {ws : List ByteArray} (hws : ∀ w ∈ ws, w ∈ L) {s : ByteArray} {A : List UInt8} (hs : tl s = A ++ flat ws) (hne : 0 < ws.length) : okAt n L s A.length = true ∧ piecesF s n A.length = ws := by
  have hsz : ∀ w ∈ ws, w.size = n := fun w h => (hw w (hws w h)).1
  have hp : piecesF s n A.length = ws := pcs_flat hn s ws A _ hs hsz (by
    have := congrArg List.length hs
    rw [tl_length, List.length_append] at this
    have := le_flat hn hsz
    omega)
  refine ⟨?_, hp⟩
  unfold okAt
  rw [hp, decide_eq_true hne, Bool.true_and, List.all_eq_true]
  intro w h
  exact isIn_iff.2 (hws w h)
include hf
theorem no_read {ws : List ByteArray} (hws : ∀ w ∈ ws, w ∈ L) {s : ByteArray} (hs : tl s = flat ws) {p : Nat} (h1 : 1 ≤ p) (h2 : p < n) : okAt n L s p = false := by
  have hsz : ∀ w ∈ ws, w.size = n := fun w h => (hw w (hws w h)).1
  have hlen : s.size = ws.length * n := by rw [← tl_length, hs, flatN hsz]
  rw [Bool.eq_false_iff]
  intro hok
  unfold okAt at hok
  rw [Bool.and_eq_true, decide_eq_true_eq, List.all_eq_true] at hok
  obtain ⟨h3, h4⟩ := hok
  unfold piecesF pcs at h3 h4
  by_cases hle : p + n ≤ s.size
  · rw [if_pos hle] at h4
    have hin := isIn_iff.1 (h4 _ (List.mem_cons_self ..))
    match ws, hlen, hs, hws with
    | [], hlen, _, _ => rw [List.length_nil, Nat.zero_mul] at hlen; omega
    | [w], hlen, _, _ => rw [List.length_singleton, Nat.one_mul] at hlen; omega
    | u :: v :: r, _, hs, hws =>
      have mu : u ∈ L := hws u (by simp)
      have mv : v ∈ L := hws v (by simp)
      have su := (hw u mu).1
      have sv := (hw v mv).1
      have e : clWin u v p = s.extract p (p + n) := by
        apply list_inj
        show tl (clWin u v p) = tl _
        unfold clWin
        rw [ext_tl, ext_tl, hs, su]
        have : tl (u ++ v) = tl u ++ tl v := by unfold tl; rw [ByteArray.data_append, Array.toList_append]
        rw [this, flat_cons, flat_cons, ← List.append_assoc, List.take_append_of_le_length (l₂ := flat r) (by rw [List.length_append, tl_length, tl_length]; omega)]
      have := (free_false (L := L) (n := n) (fun w h => (hw w h).1)).2 ⟨u, v, _, p, mu, mv, hin, h1, h2, e⟩
      rw [this] at hf; simp at hf
  · rw [if_neg hle] at h3; simp at h3
theorem reads_flat {ws : List ByteArray} (hws : ∀ w ∈ ws, w ∈ L) {s : ByteArray} (hs : tl s = flat ws) (hne : 0 < ws.length) : readsF n L s = [0] := by
  unfold readsF
  have h0 := (ok_flat hw hn hws (A := []) (by simpa using hs) hne).1
  rw [readsG_step n L s 0 hn]
  rw [show okAt n L s 0 = true from h0, cond_true]
  have : readsG n L s (0 + 1) = [] := by
    unfold readsG
    rw [List.map_eq_nil_iff, List.filter_eq_nil_iff]
    intro p hp
    rw [List.mem_range'_1] at hp
    rw [no_read hw hn hf hws hs (by omega) (by omega)]; simp
  rw [this]; rfl
theorem cut_flat {ws : List ByteArray} (hws : ∀ w ∈ ws, w ∈ L) {s : ByteArray} (hs : tl s = flat ws) (hne : 0 < ws.length) (hsz : s.size ≤ 1000) : cutOK n L k s = true ∧ cutF n L k s = ws := by
  have h1 := reads_flat hw hn hf hws hs hne
  have h0 := (ok_flat hw hn hws (A := []) (by simpa using hs) hne).2
  have hok : cutOK n L k s = true := by
    unfold cutOK streamOK
    rw [h1, flat_over hw hws hs, decide_eq_true hsz]; rfl
  refine ⟨hok, ?_⟩
  unfold cutF
  rw [hok, cond_true, h1]
  exact h0
omit hf
omit hn hw in
theorem over_drop {s s2 : ByteArray} (hs : overF k s = true) (h2 : s2 = s.extract 1 s.size) : overF k s2 = true := by
  unfold overF at hs ⊢
  rw [List.all_eq_true] at hs ⊢
  intro c hc
  refine hs c ?_
  have : tl s2 = (tl s).drop 1 := by rw [h2, ext_tl, ← tl_length, List.take_length]
  rw [show s2.data.toList = (tl s).drop 1 from this] at hc
  exact List.mem_of_mem_drop hc
/-- Without its first letter. -/
theorem cut_tail {w : ByteArray} {ws : List ByteArray} (hww : w ∈ L) (hws : ∀ w ∈ ws, w ∈ L) {s s2 : ByteArray} (hs : tl s = flat (w :: ws)) (hne : 0 < ws.length) (h2 : s2 = s.extract 1 s.size) (hok : cutOK n L k s2 = true) : cutF n L k s2 = ws := by
  have sw := (hw w hww).1
  have e : tl s2 = (tl w).drop 1 ++ flat ws := by
    rw [h2, ext_tl, ← tl_length, List.take_length, hs, flat_cons, List.drop_append_of_le_length (by rw [tl_length]; omega)]
  have hl : ((tl w).drop 1).length = n - 1 := by rw [List.length_drop, tl_length]; omega
  obtain ⟨o1, o2⟩ := ok_flat hw hn hws e hne
  rw [hl] at o1 o2
  have hm : ((n - 1 : Nat) : Int) ∈ readsF n L s2 := by
    unfold readsF readsG
    rw [List.mem_map]
    exact ⟨n - 1, by rw [List.mem_filter, List.mem_range'_1]; exact ⟨by omega, o1⟩, rfl⟩
  unfold cutF
  rw [hok, cond_true]
  unfold cutOK at hok
  rw [Bool.and_eq_true, beq_iff_eq] at hok
  match hr : readsF n L s2, hok.2, hm with
  | [z], _, hm =>
    simp only [List.mem_singleton] at hm
    subst hm
    exact o2
end
end Go.Proofs.YtpbmpdocgplhpaaDoor
