/-
  The start of a call as an abstract heap: the variables of packages, in general.
-/
import Derived.Test.YtknpjlcgjlnfbaaGreatDoorVc4
set_option linter.unusedSimpArgs false
set_option linter.unusedVariables false
namespace Go.AM

def rhoG (G : Nat) : Rho := fun b => if b < G then some ⟨b, 0, 100⟩ else none
theorem rhoG_some {G b : Nat} {p : Pl} (h : rhoG G b = some p) : b < G ∧ p = ⟨b, 0, 100⟩ := by
  unfold rhoG at h
  split at h
  · rename_i hb; simp only [Option.some.injEq] at h; exact ⟨hb, h.symm⟩
  · simp at h
/-- A variable that reads as it is laid; or of which nothing is told. -/
def GlobOK (W : World) (b : Nat) (o : AObj) : Prop :=
  o = .dead ∨ ∃ cs, o = .row cs false ∧ cs.length ≤ 100 ∧ cs.all scalarOK = true ∧ ∃ c t fz, W.heap[b]? = some (.cells c t fz) ∧ c.toList = cs
theorem start_of {P : Program} {H0 : AHeap} {W : World} (hlen : H0.length = P.globals.size) (hsz : P.globals.size ≤ W.heap.size) (hro : ∀ (b : Nat) (o : AObj), H0[b]? = some o → GlobOK W b o) :
    Start P (rhoG P.globals.size) H0 W := by
  have hown : ∀ o ∈ H0, o.own = false := by
    intro o ho
    obtain ⟨b, hb⟩ := List.getElem?_of_mem ho
    rcases hro b o hb with rfl | ⟨cs, rfl, _⟩ <;> rfl
  have hlt : ∀ {b : Nat} {o : AObj}, H0[b]? = some o → b < P.globals.size := by
    intro b o hb; rw [← hlen]; exact (List.getElem?_eq_some_iff.1 hb).1
  refine ⟨⟨?_, ?_, ?_, ?_, ?_, ?_, ?_, ?_⟩, hown, ?_⟩
  · intro b o hb _; exact ⟨⟨b, 0, 100⟩, by simp [rhoG, hlt hb]⟩
  · intro b o p hb hp
    obtain ⟨hb4, rfl⟩ := rhoG_some hp
    rcases hro b o hb with rfl | ⟨cs, rfl, hc1, hc2, c, t, fz, h1, h2⟩
    · trivial
    · have hcs : c.size = cs.length := by rw [← h2]; simp
      refine ⟨c, t, fz, h1, by simp [hcs], fun i v hv => ?_, by simpa using hc1, by simp⟩
      refine ⟨v, ?_, scalar_refl (List.all_eq_true.1 hc2 v (List.mem_of_getElem? hv)) _⟩
      rw [Nat.zero_add, ← Array.getElem?_toList, h2]; exact hv
  · intro b p hp; obtain ⟨hb, rfl⟩ := rhoG_some hp; simp; omega
  · intro b p hp; obtain ⟨hb, rfl⟩ := rhoG_some hp; rw [hlen]; exact hb
  · intro b b' o o' p p' _ hb _ _ _ ho; rw [hown o (List.mem_of_getElem? hb)] at ho; simp at ho
  · intro g hg; exact ⟨100, by simp [rhoG, hg]⟩
  · intro b o p hb _ ho; rw [hown o (List.mem_of_getElem? hb)] at ho; simp at ho
  · exact hsz
  · intro b p hp; obtain ⟨hb, rfl⟩ := rhoG_some hp; exact hb
end Go.AM
