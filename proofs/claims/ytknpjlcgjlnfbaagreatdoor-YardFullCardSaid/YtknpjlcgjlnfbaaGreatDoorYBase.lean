/-
  The yard's ground: its program is one that the abstract executor serves; what the row's list tells of the variables; the start of a call.
-/
import Derived.Test.YtknpjlcgjlnfbaaGreatDoorVst
import Derived.Test.YtknpjlcgjlnfbaaGreatDoorYpl
import Derived.Test.YtknpjlcgjlnfbaaGreatDoorCards
import Derived.Test.YtknpjlcgjlnfbaaGreatDoorTie
import Derived.WalkKit
import Derived.ProofKit
import Derived.OpenShut
import Derived.Deep.DeepHandedRow
import Derived.Lib.LaidU8T
import Derived.Stop.LaidErr
import Derived.LaidHandle
import Derived.Shelf.Vars
import Derived.Shelf.Unicode.DecodeLast
import Derived.Lib.LaidTab
set_option linter.unusedSimpArgs false
set_option linter.unusedVariables false
set_option maxRecDepth 100000
namespace Go.Proofs.YtknpjlcgjlnfbaaGreatDoor
open Go Go.AM Go.ChangeShapes Go.WideShapes Go.ChangeAt Go.RowKit

theorem progOK' : progOK Tryz.prog = true := by kernel_rfl
theorem mixed : Tryz.prog.follows .mixedOrders = true := by kernel_rfl
theorem globals12 : Tryz.prog.globals.size = 12 := by kernel_rfl

def seatLaid : List (String × DataW Unit) := [("math/bits.deBruijn32tab", Rows.laid_math_bits_deBruijn32tab), ("math/bits.deBruijn64tab", Rows.laid_math_bits_deBruijn64tab), ("internal/strconv.uint64pow10", Rows.laid_internal_strconv_uint64pow10), ("unicode/utf8.acceptRanges", Rows.laid_unicode_utf8_acceptRanges), ("errors.errorType", Rows.laid_errors_errorType), ("careen/dues.none", Rows.laid_careen_dues_none), ("strconv.ErrRange", Rows.laid_strconv_ErrRange), ("strconv.ErrSyntax", Rows.laid_strconv_ErrSyntax), ("careen/flag.none", Rows.laid_careen_flag_none), ("unicode/utf8.first", Rows.laid_unicode_utf8_first)]
def seatPlain : List (String × DataW Unit) := [("math/bits.deBruijn32tab", Rows.laid_math_bits_deBruijn32tab), ("math/bits.deBruijn64tab", Rows.laid_math_bits_deBruijn64tab), ("internal/strconv.uint64pow10", Rows.laid_internal_strconv_uint64pow10), ("unicode/utf8.acceptRanges", Rows.laid_unicode_utf8_acceptRanges), ("careen/dues.none", Rows.laid_careen_dues_none), ("strconv.ErrRange", Rows.laid_strconv_ErrRange), ("strconv.ErrSyntax", Rows.laid_strconv_ErrSyntax), ("careen/flag.none", Rows.laid_careen_flag_none), ("unicode/utf8.first", Rows.laid_unicode_utf8_first)]
theorem laid_parts {W : World} (h : laidMetH Tryz.prog seatLaid W) : laidMet Tryz.prog seatPlain W ∧ handlesMet Tryz.prog [("errors.errorType", Rows.laid_errors_errorType)] W := h

theorem heap_of_var {W : World} {n : String} {g : Nat} {cs : Array Value} (hg : Tryz.prog.globalNamed n = some g) (hv : W.var? Tryz.prog n = some cs) : ∃ t fz, W.heap[g]? = some (.cells cs t fz) := by
  unfold World.var? at hv
  rw [hg, Option.bind_some] at hv
  split at hv
  · rename_i c t fz hh
    simp only [Option.some.injEq] at hv; subst hv
    exact ⟨t, fz, hh⟩
  · simp at hv
theorem tab_cells {W : World} {n : String} {g : Nat} {t e : TypeId} {N : Nat} {k : IntKind} {zs : List Int} (r : Lib.VarReads Tryz.prog W n (Lib.tabData k zs)) (hg : Tryz.prog.globalNamed n = some g)
    (hty : (Tryz.prog.globals[g]?).map (·.type) = some t) (ht : Tryz.prog.underlying t = some (.array N e)) (he : Tryz.prog.underlying e = some (.int k)) (hce : Tryz.prog.cellsOf e = 1) (hct : Tryz.prog.cellsOf t = N) :
    Lib.TabIs Tryz.prog W n k zs ∧ ∃ c t' fz, W.heap[g]? = some (.cells c t' fz) ∧ c.toList = zs.map fun z => Value.int k z := by
  obtain ⟨g', t', cs, fuel, p, hg', ht', hv, hd⟩ := r
  obtain rfl := Option.some.inj (hg.symm.trans hg')
  obtain rfl := Option.some.inj (hty.symm.trans ht')
  have e1 := Lib.cells_of_tab ht he hce hct hd
  obtain ⟨t2, fz, hh⟩ := heap_of_var hg hv
  exact ⟨by unfold Lib.TabIs; rw [hv, ← e1], cs, t2, fz, hh, e1⟩

def deb32 : List Int := [0, 1, 28, 2, 29, 14, 24, 3, 30, 22, 20, 15, 25, 17, 4, 8, 31, 27, 13, 23, 21, 19, 16, 7, 26, 12, 18, 6, 11, 5, 10, 9]
def deb64 : List Int := [0, 1, 56, 2, 57, 49, 28, 3, 61, 58, 42, 50, 38, 29, 17, 4, 62, 47, 59, 36, 45, 43, 51, 22, 53, 39, 33, 30, 24, 18, 12, 5, 63, 55, 48, 27, 60, 41, 37, 16, 46, 35, 44, 21, 52, 32, 23, 11, 54, 26, 40, 15, 34, 20, 31, 10, 25, 14, 19, 9, 13, 8, 7, 6]
def tabRow (k : IntKind) (zs : List Int) : AObj := .row (zs.map fun z => .int k z) false
/-- The start of a call. -/
def H0 : AHeap := [tabRow .i64 [-1, -1, -1], .dead, tabRow .i64 [0, 1], .dead, .dead, tabRow .u8 deb32, tabRow .u8 deb64, .dead, .dead, .dead, .dead, .dead]
/-- The same, and the variable of which only its form is known. -/
def HZ (z0 z1 : Int) : AHeap := [tabRow .i64 [-1, -1, -1], .row [.int .i64 z0, .int .i64 z1] false, tabRow .i64 [0, 1], .dead, .dead, tabRow .u8 deb32, tabRow .u8 deb64, .dead, .dead, .dead, .dead, .dead]

theorem star : "*" ++ "errors.errorString" = "*errors.errorString" := by decide
theorem row453 (u : TypeId) (h : Tryz.prog.typeName? 3 u = some "*errors.errorString") : u = 453 :=
  typeName_ptr_named (nm := "errors.errorString") (by rw [star]; kernel_rfl) (by kernel_rfl) (by decide) u (by rw [star]; exact h)
theorem rtypeT : (Tryz.prog.cutTypes.find? (·.1 == "internal/reflectlite.rtype")).map (·.2) = some 372 := by kernel_rfl
theorem typesN : Tryz.prog.types.size = 498 := by kernel_rfl
theorem oneRow : ((List.range 498).filter fun t => Tryz.prog.rowNamed t [101, 114, 114, 111, 114]) = [119] := by kernel_rfl

/-- What the contracts ask of the start's variables. -/
structure YW (W : World) : Prop where
  maxl : ∃ m, W.cell? ⟨4, 0, none⟩ = some (.int .i64 m)
  tab : Lib.TabIs Tryz.prog W "internal/strconv.uint64pow10" .u64 Lib.pow10Tab
  synt : ∃ te pe, W.cell? ⟨8, 0, none⟩ = some (.iface te pe)
  rng : ∃ te pe, W.cell? ⟨9, 0, none⟩ = some (.iface te pe)
  etyp : W.cell? ⟨3, 0, none⟩ = some (.iface 372 (.agg #[.pointer (some ⟨12, 119, none⟩)]))
  size : 12 ≤ W.heap.size

theorem handle_of {W : World} (h : handlesMet Tryz.prog [("errors.errorType", Rows.laid_errors_errorType)] W) : W.cell? ⟨3, 0, none⟩ = some (.iface 372 (.agg #[.pointer (some ⟨12, 119, none⟩)])) := by
  obtain ⟨name, u, ty, e1, e2, e3, e4, e5⟩ := h _ (List.mem_singleton.2 rfl)
  have en : name = [101, 114, 114, 111, 114] := (Option.some.inj e1).symm
  subst en
  obtain rfl := Option.some.inj (rtypeT.symm.trans e2)
  have hm : ty ∈ (List.range 498).filter fun t => Tryz.prog.rowNamed t [101, 114, 114, 111, 114] := List.mem_filter.2 ⟨List.mem_range.2 (by rw [← typesN]; exact e3), e4⟩
  rw [oneRow] at hm
  obtain rfl := List.mem_singleton.1 hm
  have hh : typeHandle Tryz.prog 119 = .pointer (some ⟨12, 119, none⟩) := by kernel_rfl
  rw [hh] at e5
  simpa using World.var?_cell (show Tryz.prog.globalNamed "errors.errorType" = some 3 by kernel_rfl) e5 0
theorem gER : Tryz.prog.globalNamed "strconv.ErrRange" = some 9 := by kernel_rfl
theorem gES : Tryz.prog.globalNamed "strconv.ErrSyntax" = some 8 := by kernel_rfl
theorem gERt : (Tryz.prog.globals[9]?).map (·.type) = some 119 := by kernel_rfl
theorem gESt : (Tryz.prog.globals[8]?).map (·.type) = some 119 := by kernel_rfl
theorem cells386 : Tryz.prog.cellsOf 455 = 1 := by kernel_rfl
theorem cells9 : Tryz.prog.cellsOf 9 = 1 := by kernel_rfl
theorem heap_size {W : World} (h : W.ShapedOpen Tryz.prog) : 12 ≤ W.heap.size := by
  obtain ⟨cs, hh, _, _⟩ := h.1 11 #[.int .u8 0, .int .u8 0, .int .u8 0, .int .u8 0, .int .u8 0, .int .u8 0, .int .u8 0, .int .u8 0, .int .u8 0, .int .u8 0, .int .u8 0, .int .u8 0, .int .u8 0, .int .u8 0, .int .u8 0, .int .u8 0, .int .u8 0, .int .u8 0, .int .u8 0, .int .u8 0, .int .u8 0, .int .u8 0, .int .u8 0, .int .u8 0, .int .u8 0, .int .u8 0, .int .u8 0, .int .u8 0, .int .u8 0, .int .u8 0, .int .u8 0, .int .u8 0] 451 (by rw [globals12]; omega) (by kernel_rfl)
  by_cases hlt : 11 < W.heap.size
  · omega
  · rw [Array.getElem?_eq_none (by omega)] at hh; simp at hh
theorem yw_of {W : World} (h : laidMetH Tryz.prog seatLaid W) (hsh : W.ShapedOpen Tryz.prog) : YW W := by
  obtain ⟨hp, hh⟩ := laid_parts h
  have r {n : String} {d : DataW Unit} (hm : (n, d) ∈ seatPlain) : Lib.VarReads Tryz.prog W n d := Lib.laidMet.reads hp hm
  have t5 : laidMet Tryz.prog (("strconv.ErrRange", Rows.laid_strconv_ErrRange) :: ("strconv.ErrSyntax", Rows.laid_strconv_ErrSyntax) :: seatPlain.drop 7) W := hp.tail.tail.tail.tail.tail
  obtain ⟨a1, s1, hv1, -, -, -⟩ := laid_sentinel t5 gER gERt Tryz.underlying119 row453 Tryz.underlying453 Tryz.underlying455 rfl rfl Tryz.underlying9 cells386 cells9
  obtain ⟨a0, s0, hv0, -, -, -⟩ := laid_sentinel t5.tail gES gESt Tryz.underlying119 row453 Tryz.underlying453 Tryz.underlying455 rfl rfl Tryz.underlying9 cells386 cells9
  refine ⟨?_, ?_, ?_, ?_, handle_of hh, heap_size hsh⟩
  · exact cell_of_shapedOpen_int (P := Tryz.prog) (t := 3) (zero := #[.int .i64 0]) hsh (by rw [globals12]; omega) (by kernel_rfl) rfl (by kernel_rfl) (by kernel_rfl) Tryz.underlying3
  · exact (tab_cells (g := 7) (zs := Lib.pow10Tab) (r (by rw [show Lib.tabData .u64 Lib.pow10Tab = Rows.laid_internal_strconv_uint64pow10 by kernel_rfl]; simp [seatPlain])) (by kernel_rfl) (by kernel_rfl) Tryz.underlying410 Tryz.underlying144 (by kernel_rfl) (by kernel_rfl)).1
  · exact ⟨_, _, by have h0 := World.var?_cell gES hv0 0; simpa using h0⟩
  · exact ⟨_, _, by have h0 := World.var?_cell gER hv1 0; simpa using h0⟩

theorem fields_ok {fs : Array Field} {T : TypeId} (h : (fs.toList.zipIdx.all fun p => p.1.type == T && p.1.offset == p.2) = true) : ∀ (i : Nat) (f : Field), fs[i]? = some f → f.type = T ∧ f.offset = i := by
  intro i f hf
  rw [List.all_eq_true] at h
  have := h (f, i) (by rw [List.mem_zipIdx_iff_getElem?]; simpa using hf)
  simpa using this
theorem struct_cells {W : World} {n : String} {g : Nat} {t T : TypeId} {fs : Array Field} {k : IntKind} {zs : List Int} (r : Lib.VarReads Tryz.prog W n (Lib.tabData k zs)) (hg : Tryz.prog.globalNamed n = some g)
    (hty : (Tryz.prog.globals[g]?).map (·.type) = some t) (ht : Tryz.prog.underlying t = some (.struct fs)) (hf : (fs.toList.zipIdx.all fun p => p.1.type == T && p.1.offset == p.2) = true) (he : Tryz.prog.underlying T = some (.int k)) (hce : Tryz.prog.cellsOf T = 1) (hct : Tryz.prog.cellsOf t = fs.size) :
    ∃ c t' fz, W.heap[g]? = some (.cells c t' fz) ∧ c.toList = zs.map fun z => Value.int k z := by
  obtain ⟨g', t', cs, fuel, p, hg', ht', hv, hd⟩ := r
  obtain rfl := Option.some.inj (hg.symm.trans hg')
  obtain rfl := Option.some.inj (hty.symm.trans ht')
  have e1 := Lib.ints_of_struct ht (fun i f h => by obtain ⟨q1, q2⟩ := fields_ok hf i f h; rw [q1]; exact ⟨he, q2, hce⟩) hct hd
  obtain ⟨t2, fz, hh⟩ := heap_of_var hg hv
  exact ⟨cs, t2, fz, hh, e1⟩
theorem start {W : World} (h : laidMetH Tryz.prog seatLaid W) (hsh : W.ShapedOpen Tryz.prog) : Go.AM.Start Tryz.prog (rhoG Tryz.prog.globals.size) H0 W := by
  obtain ⟨hp, hh⟩ := laid_parts h
  have r {n : String} {d : DataW Unit} (hm : (n, d) ∈ seatPlain) : Lib.VarReads Tryz.prog W n d := Lib.laidMet.reads hp hm
  have g3 := struct_cells (g := 0) (T := 3) (n := "careen/flag.none") (k := .i64) (zs := [-1, -1, -1]) (r (by rw [show Lib.tabData .i64 [-1, -1, -1] = Rows.laid_careen_flag_none by kernel_rfl]; simp [seatPlain])) (by kernel_rfl) (by kernel_rfl) Tryz.underlying150 (by kernel_rfl) Tryz.underlying3 (by kernel_rfl) (by kernel_rfl)
  have g7 := (tab_cells (g := 5) (n := "math/bits.deBruijn32tab") (k := .u8) (zs := deb32) (r (by rw [show Lib.tabData .u8 deb32 = Rows.laid_math_bits_deBruijn32tab by kernel_rfl]; simp [seatPlain])) (by kernel_rfl) (by kernel_rfl) Tryz.underlying405 Tryz.underlying5 (by kernel_rfl) (by kernel_rfl)).2
  have g8 := (tab_cells (g := 6) (n := "math/bits.deBruijn64tab") (k := .u8) (zs := deb64) (r (by rw [show Lib.tabData .u8 deb64 = Rows.laid_math_bits_deBruijn64tab by kernel_rfl]; simp [seatPlain])) (by kernel_rfl) (by kernel_rfl) Tryz.underlying406 Tryz.underlying5 (by kernel_rfl) (by kernel_rfl)).2
  have g4 := struct_cells (g := 2) (T := 2) (n := "careen/dues.none") (k := .i64) (zs := [0, 1]) (r (by rw [show Lib.tabData .i64 [0, 1] = Rows.laid_careen_dues_none by kernel_rfl]; simp [seatPlain])) (by kernel_rfl) (by kernel_rfl) Tryz.underlying191 (by kernel_rfl) Tryz.underlying2 (by kernel_rfl) (by kernel_rfl)
  refine start_of (by rw [globals12]; rfl) (by rw [globals12]; exact heap_size hsh) (fun b o hb => ?_)
  have hb12 : b < 12 := by have := (List.getElem?_eq_some_iff.1 hb).1; simpa [H0] using this
  have tk : ∀ {k : IntKind} {zs : List Int} {b : Nat}, zs.length ≤ 100 → (∃ c t' fz, W.heap[b]? = some (.cells c t' fz) ∧ c.toList = zs.map fun z => Value.int k z) → GlobOK W b (tabRow k zs) := by
    intro k zs b hz g
    refine Or.inr ⟨_, rfl, by simpa using hz, ?_, g⟩
    rw [List.all_eq_true]; intro v hv; obtain ⟨z, _, rfl⟩ := List.mem_map.1 hv; rfl
  have hcase : b = 0 ∨ b = 1 ∨ b = 2 ∨ b = 3 ∨ b = 4 ∨ b = 5 ∨ b = 6 ∨ b = 7 ∨ b = 8 ∨ b = 9 ∨ b = 10 ∨ b = 11 := by omega
  rcases hcase with rfl | rfl | rfl | rfl | rfl | rfl | rfl | rfl | rfl | rfl | rfl | rfl <;>
    simp only [H0, List.getElem?_cons_succ, List.getElem?_cons_zero, Option.some.injEq] at hb <;> subst hb
  · exact tk (by decide) g3
  · exact Or.inl rfl
  · exact tk (by decide) g4
  · exact Or.inl rfl
  · exact Or.inl rfl
  · exact tk (by decide) g7
  · exact tk (by decide) g8
  · exact Or.inl rfl
  · exact Or.inl rfl
  · exact Or.inl rfl
  · exact Or.inl rfl
  · exact Or.inl rfl
end Go.Proofs.YtknpjlcgjlnfbaaGreatDoor
