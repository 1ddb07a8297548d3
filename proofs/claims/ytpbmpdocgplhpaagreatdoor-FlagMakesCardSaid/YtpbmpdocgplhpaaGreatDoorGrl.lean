/-
  'FlagGrows', walked.
-/
import Derived.Test.YtpbmpdocgplhpaaGreatDoorGrow
import Derived.Test.YtpbmpdocgplhpaaGreatDoorSrtPl
import Derived.Test.YtpbmpdocgplhpaaGreatDoorSortNil
import Derived.Test.YtpbmpdocgplhpaaGreatDoorDecPl
import Derived.Test.YtpbmpdocgplhpaaGreatDoorME
import Derived.Test.YtpbmpdocgplhpaaGreatDoorFree
import Derived.Test.YtpbmpdocgplhpaaGreatDoorMC
import Derived.Test.YtpbmpdocgplhpaaGreatDoorMI
import Derived.Test.YtpbmpdocgplhpaaGreatDoorCode
import Derived.Test.YtpbmpdocgplhpaaGreatDoorMH
import Derived.Test.YtpbmpdocgplhpaaGreatDoorAx2
set_option linter.unusedSimpArgs false
set_option linter.unusedVariables false
set_option maxRecDepth 100000
namespace Go.Proofs.YtpbmpdocgplhpaaGreatDoor
open Go Go.AM

/-- 'sorted', over the library's sort. -/
theorem sorted_c {X : Ext} (h78 : X 63 = some sortC) (h64 : X 29 = none) (h79 : X 64 = none) (h : AHeap) (b kk : Nat) (G : List ByteArray) (hb : h[b]? = some (.row (strs G) true)) (hN : G.length < 1000000) :
    Ca Tryz.prog X (.fn 29) [.slice (some ⟨b, 0, some 1⟩) G.length kk] h (fun v h' => ∃ L' kk', v = .slice (some ⟨b, 0, some 1⟩) (compactM seq (sortB G)).length kk' ∧ h' = h.set b (.row (strs L') true) ∧ L'.take (compactM seq (sortB G)).length = compactM seq (sortB G)) := by
  have hlt : b < h.length := lt_of_get hb
  have c78 : Ca Tryz.prog X (.fn 63) [.slice (some ⟨b, 0, some 1⟩) G.length kk] h (fun v h' => h' = h.set b (.row (strs (sortB G)) true)) := by
    refine Ca_ext (c := sortC) h78 (v := .tuple #[]) (h' := h.set b (.row (strs (sortB G)) true)) ?_ rfl
    simp only [sortC, hb, strsOf_strs]
    rw [if_pos ⟨trivial, hN⟩]
  have hc := compact_spec h79 (h.set b (.row (strs (sortB G)) true)) b kk (sortB G) (by simp [hlt]) (by rw [sortB_length]; exact hN)
  rw [sortB_length] at hc
  refine Ca_fn (fn := Tryz.f29) (c := Tryz.f29.body.getD .skip) h64 (by kernel_rfl) (by kernel_rfl) (by kernel_rfl) ?_
  refine Run 1000 ?_
  refine Fin_call 63 [.slice (some ⟨b, 0, some 1⟩) G.length kk] (by kernel_rfl) (by kernel_rfl) c78 (fun v1 hh1 hv1 => ?_)
  subst hv1
  refine Run 1000 ?_
  refine Fin_call 64 [.slice (some ⟨b, 0, some 1⟩) G.length kk] (by kernel_rfl) (by kernel_rfl) hc (fun v2 hh2 hv2 => ?_)
  obtain ⟨L', kk', rfl, rfl, h3, h4⟩ := hv2
  refine Run 1000 ?_
  refine Fin_r (by kernel_rfl) ⟨Or.inr rfl, .slice (some ⟨b, 0, some 1⟩) (compactM seq (sortB G)).length kk', by kernel_rfl, L', kk', rfl, ?_, h3⟩
  rw [List.set_set]
theorem sort_c_nil {X : Ext} (h78 : X 63 = some sortC) (h : AHeap) : Ca Tryz.prog X (.fn 63) [.slice none 0 0] h (fun v h' => h' = h) :=
  Ca_ext (c := sortC) h78 (v := .tuple #[]) (h' := h) rfl rfl
end Go.Proofs.YtpbmpdocgplhpaaGreatDoor
