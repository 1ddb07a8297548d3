/-
  THE ABSTRACT EXECUTOR, KEPT IN TREES: the operations, word for word over the tree, and that they are those over the list.
-/
import Derived.Test.YtknpjlcgjlnfbaaGreatDoorAt1
set_option linter.unusedSimpArgs false
set_option linter.unusedVariables false
namespace Go.AMT
open Go Go.AM
noncomputable section

def cellsT (h : TH) (b : Nat) : Option (List Value) :=
  match h.get b with
  | some (.row cs _) => some cs
  | _ => none

def loadNT (h : TH) (b o n : Nat) : Option (List Value) :=
  match cellsT h b with
  | some cs => if o + n ≤ cs.length then some ((cs.drop o).take n) else none
  | none => none

def load1T (h : TH) (b o : Nat) : Option Value :=
  match cellsT h b with
  | some cs => cs[o]?
  | none => none


def storeNT (h : TH) (b o : Nat) (vs : List Value) : Option TH :=
  match h.get b with
  | some (.row cs true) => if o + vs.length ≤ cs.length && vs.all isCell then some (h.put b (.row (splice cs o vs) true)) else none
  | _ => none

def aloadT (P : Program) (h : TH) (t : TypeId) (a : Value) : Option Value :=
  match a, ti P t with
  | .pointer (some ⟨b, o, none⟩), some i =>
    if i.isAgg then (match loadNT h b o i.size with | some cs => some (.agg cs.toArray) | none => none) else load1T h b o
  | _, _ => none

def astoreT (P : Program) (h : TH) (t : TypeId) (a v : Value) : Option TH :=
  match a, ti P t with
  | .pointer (some ⟨b, o, none⟩), some i => if v.cells.size = i.size && isData v then storeNT h b o v.cells.toList else none
  | _, _ => none

def anewT (h : TH) (cs : List Value) : Value × TH := (.pointer (some ⟨h.len, 0, none⟩), h.push (.row cs true))


def asliceArrT (P : Program) (h : TH) (t : TypeId) (x : Value) (lo hi mx : Option Value) : Option Value :=
  match ti P t, x with
  | some ⟨.array n e, _, _, _⟩, .pointer (some ⟨b, o, none⟩) =>
    match ti P e, abound hi n n, mx, cellsT h b with
    | some ie, some hh, none, some cs =>
      match abound lo 0 hh with
      | some l => if o + n * ie.size ≤ cs.length then some (.slice (some ⟨b, o + l * ie.size, some ie.size⟩) (hh - l) (if hh = n then hh - l else hh - l + 1)) else none
      | none => none
    | _, _, _, _ => none
  | _, _ => none


def alenMapT (P : Program) (h : TH) (t : TypeId) (x : Value) : Option Value :=
  match P.underlying t, x with
  | some (.map _ _), .map (some r) => match h.get r with | some (.amap es) => some (goInt es.length) | _ => none
  | _, _ => none


def mapEsT (h : TH) (m : Value) : Option (List (Value × Value)) :=
  match m with
  | .map none => some []
  | .map (some r) => match h.get r with
    | some (.amap es) => some es
    | _ => none
  | _ => none
def alookupT (P : Program) (h : TH) (t : TypeId) (m k : Value) (ok : Bool) : Option Value :=
  match mapKind P t, mapEsT h m with
  | some (d, e), some es => match afind d k es, ti P e with
    | some (some v), _ => some (if ok then .tuple #[v, .bool true] else v)
    | some none, some i => some (if ok then .tuple #[i.zero, .bool false] else i.zero)
    | _, _ => none
  | _, _ => none


def alookupAT (P : Program) (h : TH) (t : TypeId) (m k : Value) (ok : Bool) : Option Value :=
  match mapKindA P t, mapEsT h m with
  | some (kt, q, e), some es => if isKeyA q k then (match afindA P kt k es, ti P e with
    | some (some v), _ => some (if ok then .tuple #[v, .bool true] else v)
    | some none, some i => some (if ok then .tuple #[i.zero, .bool false] else i.zero)
    | _, _ => none) else none
  | _, _ => none
def amapUpdAT (P : Program) (h : TH) (t : TypeId) (m k x : Value) : Option TH :=
  match mapKindA P t, m with
  | some (kt, q, _), .map (some r) => if isKeyA q k then (match h.get r with
    | some (.amap es) => match aupdA P kt k x es with
      | some es' => some (h.put r (.amap es'))
      | none => none
    | _ => none) else none
  | _, _ => none

def adeleteT (P : Program) (h : TH) (t : TypeId) (m k : Value) : Option TH :=
  match mapKind P t, m with
  | some (d, _), .map (some r) => match h.get r with
    | some (.amap es) => match adel d k es with
      | some es' => some (h.put r (.amap es'))
      | none => none
    | _ => none
  | _, _ => none


def abytesT (P : Program) (h : TH) (s d : TypeId) (x : Value) : Option Value :=
  match P.underlying s, P.underlying d, x with
  | some (.slice e), some .string, .slice none _ _ => (match P.underlying e with | some (.int .u8) => some (.string .empty) | _ => none)
  | some (.slice e), some .string, .slice (some ⟨b, o, some sz⟩) n _ => (match P.underlying e with
    | some (.int .u8) => bif Nat.beq sz 1 && Nat.blt 0 n then (match loadNT h b o n with
      | some cs => (match bytesL cs with | some l => some (.string ⟨⟨l⟩⟩) | none => none)
      | none => none) else none
    | _ => none)
  | _, _, _ => none

def areadT (P : Program) (ρ : Operand → Value) (h : TH) (op : Op) : Option Value :=
  match op with
  | .load t a => aloadT P h t (ρ a)
  | .slice t x lo hi mx => asliceArrT P h t (ρ x) (lo.map ρ) (hi.map ρ) (mx.map ρ)
  | .lookup t m k ok => match alookupT P h t (ρ m) (ρ k) ok with
    | some v => some v
    | none => alookupAT P h t (ρ m) (ρ k) ok
  | .call { callee := .builtin .len, args, argTypes } => match args.toList, argTypes.toList with | [x], [t] => alenMapT P h t (ρ x) | _, _ => none
  | .convert s d x => abytesT P h s d (ρ x)
  | _ => none

def loadElemsT (h : TH) (sz : Nat) : Value → Option (List Value)
  | .slice none 0 _ => some []
  | .slice (some ⟨b, o, some s⟩) n _ => if s = sz then loadNT h b o (n * sz) else none
  | .string s => if sz = 1 then some (s.data.toList.map fun b => .int .u8 b.toNat) else none
  | _ => none

def aappendT (P : Program) (h : TH) (sT : TypeId) (s x : Value) : Option (Value × TH) :=
  match ti P sT, s, elemsLen x with
  | some ⟨.slice e, _, _, _⟩, .slice a len k, some m =>
    match ti P e with
    | some ie =>
      if m = 0 then some (.slice a len k, h)
      else if len + m ≤ lim && ie.bytes ≤ limBytes && 0 < ie.size then
        match loadElemsT h ie.size x, a with
        | some new, none => some (.slice (some ⟨h.len, 0, some ie.size⟩) (len + m) (len + m + 1), h.push (.row new true))
        | some new, some ⟨b, o, some sz⟩ =>
          if sz = ie.size then
            match loadNT h b o (len * sz), h.get b with
            | some old, some (.row _ own) =>
              if k = len then some (.slice (some ⟨h.len, 0, some sz⟩) (len + m) (len + m + 1), h.push (.row (old ++ new) true))
              else if own && new.all isCell then some (.slice (some ⟨h.len, 0, some sz⟩) (len + m) (len + m + 1), (h.put b .dead).push (.row (old ++ new) true))
              else none
            | _, _ => none
          else none
        | _, _ => none
      else none
    | none => none
  | _, _, _ => none


def amakeSliceT (P : Program) (h : TH) (t : TypeId) (l c : Value) : Option (Value × TH) :=
  match ti P t, asIdx l, asIdx c with
  | some ⟨.slice e, _, _, _⟩, some l, some c =>
    match ti P e with
    | some ie => if 0 ≤ l ∧ l ≤ c ∧ c ≤ lim ∧ ie.bytes ≤ limBytes ∧ 0 < ie.size then
        some (.slice (some ⟨h.len, 0, some ie.size⟩) l.toNat (if l = c then l.toNat else l.toNat + 1), h.push (.row (zerosOf ie.zero.cells.toList l.toNat) true))
      else none
    | none => none
  | _, _, _ => none

def abuildSliceT (P : Program) (h : TH) (t : TypeId) (len : Nat) (parts : List (Nat × Value)) : Option (Value × TH) :=
  match ti P t with
  | some ⟨.slice e, _, _, _⟩ =>
    match ti P e with
    | some ie => if len * ie.size ≤ 2 ^ 24 ∧ 0 < ie.size then
        match afill (fun i => some (i * ie.size, ie.size)) (zerosOf ie.zero.cells.toList len) parts with
        | some cs => some (.slice (some ⟨h.len, 0, some ie.size⟩) len len, h.push (.row cs true))
        | none => none
      else none
    | none => none
  | _ => none

def anextT (h : TH) (it : Value) : Option (Value × TH) :=
  match it with
  | .pointer (some ⟨r, 0, none⟩) =>
    match h.get r with
    | some (.siter s pos) =>
      if pos < s.size then
        some (.tuple #[.bool true, goInt pos, .int .i32 (Utf8.decode s pos).1], h.put r (.siter s (pos + (Utf8.decode s pos).2)))
      else some (.tuple #[.bool false], h)
    | _ => none
  | _ => none


def amapUpdT (P : Program) (h : TH) (t : TypeId) (m k x : Value) : Option TH :=
  match mapKind P t, m with
  | some (d, _), .map (some r) => match h.get r with
    | some (.amap es) => match aupd d k x es with
      | some es' => some (h.put r (.amap es'))
      | none => none
    | _ => none
  | _, _ => none
def aclearT (P : Program) (h : TH) (t : TypeId) (x : Value) : Option TH :=
  match P.underlying t, x with
  | some (.slice _), .slice none _ _ => some h
  | some (.slice e), .slice (some ⟨b, o, some sz⟩) n _ => match ti P e with
    | some i => if n = 0 then some h else if sz = i.size ∧ 0 < i.size then storeNT h b o (zerosOf i.zero.cells.toList n) else none
    | none => none
  | some (.map _ _), .map none => some h
  | some (.map _ _), .map (some r) => match h.get r with
    | some (.amap _) => some (h.put r (.amap []))
    | _ => none
  | _, _ => none

def acopyT (P : Program) (h : TH) (t : TypeId) (dst src : Value) : Option (Value × TH) :=
  match P.underlying t, dst, elemsLen src with
  | some (.slice e), .slice (some ⟨b, o, some sz⟩) len _, some m => match ti P e with
    | some ie => if sz = ie.size ∧ m ≤ len ∧ 0 < m then (match loadElemsT h ie.size src with
      | some cs => (match storeNT h b o cs with
        | some h' => some (goInt m, h')
        | none => none)
      | none => none) else none
    | none => none
  | _, _, _ => none

def aeffT (P : Program) (ρ : Operand → Value) (h : TH) (op : Op) : Option (Value × TH) :=
  match op with
  | .alloc e => match ti P e with
    | some i => if isData i.zero then some (anewT h i.zero.cells.toList) else none
    | none => none
  | .box _ x => if isData (ρ x) then some (anewT h (ρ x).cells.toList) else none
  | .buildSlice t len parts => abuildSliceT P h t len (parts.toList.map fun p => (p.1, ρ p.2))
  | .store t a x => match astoreT P h t (ρ a) (ρ x) with | some h' => some (undef, h') | none => none
  | .makeSlice t l c => amakeSliceT P h t (ρ l) (ρ c)
  | .range t x => match P.underlying t, ρ x with
    | some .string, .string s => some (.pointer (some ⟨h.len, 0, none⟩), h.push (.siter s 0))
    | _, _ => none
  | .next it true => anextT h (ρ it)
  | .convert s d x => match P.underlying s, P.underlying d, ρ x with
    | some _, some (.slice e), .string b => match P.underlying e with
      | some (.int .u8) => if b.size ≤ lim then some (.slice (some ⟨h.len, 0, some 1⟩) b.size (b.size + 1), h.push (.row (b.data.toList.map fun c => .int .u8 c.toNat) true)) else none
      | _ => none
    | _, _, _ => none
  | .call { callee := .builtin .append, args, argTypes } =>
    match args.toList, argTypes.toList with
    | [s, x], [sT, xT] => match P.underlying xT with
      | some (.int _) => none
      | some _ => aappendT P h sT (ρ s) (ρ x)
      | none => none
    | _, _ => none
  | .call { callee := .builtin .clear, args, argTypes } =>
    match args.toList, argTypes.toList with
    | [x], [t] => match aclearT P h t (ρ x) with
      | some h' => some (.tuple #[], h')
      | none => none
    | _, _ => none
  | .makeMap _ none => some (.map (some h.len), h.push (.amap []))
  | .mapUpdate t m k x => match amapUpdT P h t (ρ m) (ρ k) (ρ x) with
    | some h' => some (undef, h')
    | none => (match amapUpdAT P h t (ρ m) (ρ k) (ρ x) with
      | some h' => some (undef, h')
      | none => none)
  | .insert t m k x => match amapUpdT P h t (ρ m) (ρ k) (ρ x) with
    | some h' => some (undef, h')
    | none => (match amapUpdAT P h t (ρ m) (ρ k) (ρ x) with
      | some h' => some (undef, h')
      | none => none)
  | .call { callee := .builtin .delete, args, argTypes } =>
    match args.toList, argTypes.toList with
    | [m, k], t :: _ => match adeleteT P h t (ρ m) (ρ k) with
      | some h' => some (.tuple #[], h')
      | none => none
    | _, _ => none
  | .call { callee := .builtin .copy, args, argTypes } =>
    match args.toList, argTypes.toList with
    | [d, s], t :: _ => acopyT P h t (ρ d) (ρ s)
    | _, _ => none
  | _ => none


abbrev ACallT := Tg → List Value → TH → Option (Value × TH)
def callValueT (call : ACallT) (f : Value) (args : List Value) (h : TH) : Option (Value × TH) :=
  match f with
  | .func (.func g) first captured => call (.fn g) (first.toList ++ args ++ captured.toList) h
  | .func (.yield l) _ _ => call (.yield l) args h
  | _ => none


def callInvT (P : Program) (call : ACallT) (recv : Value) (name : String) (args : List Value) (h : TH) : Option (Value × TH) :=
  match recv with
  | .iface t v => match methodOf P t name with
    | some f => call (.fn f) (v :: args) h
    | none => none
  | _ => none

def aopT (P : Program) (call : ACallT) (ρ : Operand → Value) (h : TH) (op : Op) : Option (Value × TH) :=
  match op with
  | .call { callee := .value f, args, .. } => callValueT call (ρ f) (args.toList.map ρ) h
  | .call { callee := .invoke recv name, args, .. } => callInvT P call (ρ recv) name (args.toList.map ρ) h
  | op => match apure P ρ op with
    | some v => some (v, h)
    | none => match areadT P ρ h op with
      | some v => some (v, h)
      | none => aeffT P ρ h op


end

/-! ### They are those over the list -/
variable {P : Program} {th : TH}
/-- A result, over the list. -/
noncomputable def rL (r : Option (Value × TH)) : Option (Value × AHeap) := r.map fun p => (p.1, p.2.toL)
noncomputable def hL (r : Option TH) : Option AHeap := r.map TH.toL
theorem cells_t (b : Nat) : cellsT th b = cells? th.toL b := by unfold cellsT cells?; rw [TH.toL_get]; rfl
theorem loadN_t (b o n : Nat) : loadNT th b o n = loadN th.toL b o n := by unfold loadNT loadN; rw [cells_t]; rfl
theorem load1_t (b o : Nat) : load1T th b o = load1 th.toL b o := by unfold load1T load1; rw [cells_t]; rfl
theorem storeN_t (b o : Nat) (vs : List Value) : hL (storeNT th b o vs) = storeN th.toL b o vs := by
  unfold storeNT storeN
  rw [TH.toL_get]
  ((repeat' split) <;> first | (simp_all [rL, hL, TH.toL_push, TH.toL_put, TH.toL_length]; done) | grind [rL, hL, TH.toL_push, TH.toL_put, TH.toL_length])
theorem aload_t (t : TypeId) (a : Value) : aloadT P th t a = aload P th.toL t a := by
  unfold aloadT aload
  simp only [loadN_t, load1_t]
  rfl
theorem astore_t (t : TypeId) (a v : Value) : hL (astoreT P th t a v) = astore P th.toL t a v := by
  unfold astoreT astore
  simp only [← storeN_t]
  ((repeat' split) <;> first | (simp_all [rL, hL, TH.toL_push, TH.toL_put, TH.toL_length]; done) | grind [rL, hL, TH.toL_push, TH.toL_put, TH.toL_length])
theorem anew_t (cs : List Value) : ((anewT th cs).1, (anewT th cs).2.toL) = anew th.toL cs := by
  unfold anewT anew; rw [TH.toL_push, TH.toL_length]
theorem asliceArr_t (t : TypeId) (x : Value) (lo hi mx : Option Value) : asliceArrT P th t x lo hi mx = asliceArr P th.toL t x lo hi mx := by
  unfold asliceArrT asliceArr; simp only [cells_t]; rfl
theorem alenMap_t (t : TypeId) (x : Value) : alenMapT P th t x = alenMap P th.toL t x := by
  unfold alenMapT alenMap; simp only [TH.toL_get]; rfl
theorem mapEs_t (m : Value) : mapEsT th m = mapEs th.toL m := by
  unfold mapEsT mapEs; simp only [TH.toL_get]; rfl
theorem alookup_t (t : TypeId) (m k : Value) (ok : Bool) : alookupT P th t m k ok = alookup P th.toL t m k ok := by
  unfold alookupT alookup; simp only [mapEs_t]; rfl
theorem alookupA_t (t : TypeId) (m k : Value) (ok : Bool) : alookupAT P th t m k ok = alookupA P th.toL t m k ok := by
  unfold alookupAT alookupA; simp only [mapEs_t]; rfl
theorem amapUpdA_t (t : TypeId) (m k x : Value) : hL (amapUpdAT P th t m k x) = amapUpdA P th.toL t m k x := by
  unfold amapUpdAT amapUpdA
  simp only [TH.toL_get]
  ((repeat' split) <;> first | (simp_all [rL, hL, TH.toL_push, TH.toL_put, TH.toL_length]; done) | grind [rL, hL, TH.toL_push, TH.toL_put, TH.toL_length])
theorem adelete_t (t : TypeId) (m k : Value) : hL (adeleteT P th t m k) = adelete P th.toL t m k := by
  unfold adeleteT adelete
  simp only [TH.toL_get]
  ((repeat' split) <;> first | (simp_all [rL, hL, TH.toL_push, TH.toL_put, TH.toL_length]; done) | grind [rL, hL, TH.toL_push, TH.toL_put, TH.toL_length])
theorem abytes_t (s d : TypeId) (x : Value) : abytesT P th s d x = abytes P th.toL s d x := by
  unfold abytesT abytes; simp only [loadN_t]; rfl
theorem aread_t (ea : Operand → Value) (op : Op) : areadT P ea th op = aread P ea th.toL op := by
  unfold areadT aread
  simp only [aload_t, asliceArr_t, alookup_t, alookupA_t, alenMap_t, abytes_t]
  rfl
theorem loadElems_t (sz : Nat) (x : Value) : loadElemsT th sz x = loadElems th.toL sz x := by
  unfold loadElemsT loadElems; simp only [loadN_t]; rfl
theorem aappend_t (sT : TypeId) (s x : Value) : rL (aappendT P th sT s x) = aappend P th.toL sT s x := by
  unfold aappendT aappend
  simp only [loadElems_t, loadN_t, TH.toL_get]
  ((repeat' split) <;> first | (simp_all [rL, hL, TH.toL_push, TH.toL_put, TH.toL_length]; done) | grind [rL, hL, TH.toL_push, TH.toL_put, TH.toL_length])
theorem amakeSlice_t (t : TypeId) (l c : Value) : rL (amakeSliceT P th t l c) = amakeSlice P th.toL t l c := by
  unfold amakeSliceT amakeSlice
  ((repeat' split) <;> first | (simp_all [rL, hL, TH.toL_push, TH.toL_put, TH.toL_length]; done) | grind [rL, hL, TH.toL_push, TH.toL_put, TH.toL_length])
theorem abuildSlice_t (t : TypeId) (len : Nat) (parts : List (Nat × Value)) : rL (abuildSliceT P th t len parts) = abuildSlice P th.toL t len parts := by
  unfold abuildSliceT abuildSlice
  ((repeat' split) <;> first | (simp_all [rL, hL, TH.toL_push, TH.toL_put, TH.toL_length]; done) | grind [rL, hL, TH.toL_push, TH.toL_put, TH.toL_length])
theorem anext_t (it : Value) : rL (anextT th it) = anext th.toL it := by
  unfold anextT anext
  simp only [TH.toL_get]
  ((repeat' split) <;> first | (simp_all [rL, hL, TH.toL_push, TH.toL_put, TH.toL_length]; done) | grind [rL, hL, TH.toL_push, TH.toL_put, TH.toL_length])
theorem amapUpd_t (t : TypeId) (m k x : Value) : hL (amapUpdT P th t m k x) = amapUpd P th.toL t m k x := by
  unfold amapUpdT amapUpd
  simp only [TH.toL_get]
  ((repeat' split) <;> first | (simp_all [rL, hL, TH.toL_push, TH.toL_put, TH.toL_length]; done) | grind [rL, hL, TH.toL_push, TH.toL_put, TH.toL_length])
theorem aclear_t (t : TypeId) (x : Value) : hL (aclearT P th t x) = aclear P th.toL t x := by
  unfold aclearT aclear
  simp only [TH.toL_get, ← storeN_t]
  ((repeat' split) <;> first | (simp_all [rL, hL, TH.toL_push, TH.toL_put, TH.toL_length]; done) | grind [rL, hL, TH.toL_push, TH.toL_put, TH.toL_length])
theorem acopy_t (t : TypeId) (d s : Value) : rL (acopyT P th t d s) = acopy P th.toL t d s := by
  unfold acopyT acopy
  simp only [loadElems_t, ← storeN_t]
  ((repeat' split) <;> first | (simp_all [rL, hL, TH.toL_push, TH.toL_put, TH.toL_length]; done) | grind [rL, hL, TH.toL_push, TH.toL_put, TH.toL_length])
theorem aeff_t (ea : Operand → Value) (op : Op) : rL (aeffT P ea th op) = aeff P ea th.toL op := by
  cases op with
  | alloc e => simp only [aeffT, aeff, ← anew_t]; ((repeat' split) <;> first | (simp_all [rL, hL, TH.toL_push, TH.toL_put, TH.toL_length]; done) | grind [rL, hL, TH.toL_push, TH.toL_put, TH.toL_length])
  | box e x => simp only [aeffT, aeff, ← anew_t]; ((repeat' split) <;> first | (simp_all [rL, hL, TH.toL_push, TH.toL_put, TH.toL_length]; done) | grind [rL, hL, TH.toL_push, TH.toL_put, TH.toL_length])
  | buildSlice t len parts => exact abuildSlice_t _ _ _
  | store t a x => simp only [aeffT, aeff, ← astore_t]; ((repeat' split) <;> first | (simp_all [rL, hL, TH.toL_push, TH.toL_put, TH.toL_length]; done) | grind [rL, hL, TH.toL_push, TH.toL_put, TH.toL_length])
  | makeSlice t l c => exact amakeSlice_t _ _ _
  | range t x => simp only [aeffT, aeff]; ((repeat' split) <;> first | (simp_all [rL, hL, TH.toL_push, TH.toL_put, TH.toL_length]; done) | grind [rL, hL, TH.toL_push, TH.toL_put, TH.toL_length])
  | next it b =>
    cases b with
    | true => exact anext_t _
    | false => rfl
  | convert s d x => simp only [aeffT, aeff]; ((repeat' split) <;> first | (simp_all [rL, hL, TH.toL_push, TH.toL_put, TH.toL_length]; done) | grind [rL, hL, TH.toL_push, TH.toL_put, TH.toL_length])
  | makeMap t r =>
    cases r with
    | none => simp [aeffT, aeff, rL, TH.toL_push, TH.toL_length]
    | some x => rfl
  | mapUpdate t m k x => simp only [aeffT, aeff, ← amapUpd_t, ← amapUpdA_t]; ((repeat' split) <;> first | (simp_all [rL, hL, TH.toL_push, TH.toL_put, TH.toL_length]; done) | grind [rL, hL, TH.toL_push, TH.toL_put, TH.toL_length])
  | insert t m k x => simp only [aeffT, aeff, ← amapUpd_t, ← amapUpdA_t]; ((repeat' split) <;> first | (simp_all [rL, hL, TH.toL_push, TH.toL_put, TH.toL_length]; done) | grind [rL, hL, TH.toL_push, TH.toL_put, TH.toL_length])
  | call c =>
    obtain ⟨callee, args, tys⟩ := c
    cases callee with
    | builtin b =>
      cases b with
      | append => simp only [aeffT, aeff, ← aappend_t]; ((repeat' split) <;> first | (simp_all [rL, hL, TH.toL_push, TH.toL_put, TH.toL_length]; done) | grind [rL, hL, TH.toL_push, TH.toL_put, TH.toL_length])
      | clear => simp only [aeffT, aeff, ← aclear_t]; ((repeat' split) <;> first | (simp_all [rL, hL, TH.toL_push, TH.toL_put, TH.toL_length]; done) | grind [rL, hL, TH.toL_push, TH.toL_put, TH.toL_length])
      | delete => simp only [aeffT, aeff, ← adelete_t]; ((repeat' split) <;> first | (simp_all [rL, hL, TH.toL_push, TH.toL_put, TH.toL_length]; done) | grind [rL, hL, TH.toL_push, TH.toL_put, TH.toL_length])
      | copy => simp only [aeffT, aeff, ← acopy_t]; ((repeat' split) <;> first | (simp_all [rL, hL, TH.toL_push, TH.toL_put, TH.toL_length]; done) | grind [rL, hL, TH.toL_push, TH.toL_put, TH.toL_length])
      | _ => rfl
    | _ => rfl
  | _ => rfl

/-- Calls over trees, as calls over lists. -/
def CallT (callT : ACallT) (call : ACall) : Prop := ∀ g args th v th', callT g args th = some (v, th') → call g args th.toL = some (v, th'.toL)
theorem rL_some {r : Option (Value × TH)} {a : Option (Value × AHeap)} (h : rL r = a) {v : Value} {th' : TH} (hr : r = some (v, th')) : a = some (v, th'.toL) := by
  subst hr; rw [← h]; rfl
theorem rest_t {ea : Operand → Value} {op : Op} {v : Value} {th' : TH} (h : (match apure P ea op with | some v => some (v, th) | none => match areadT P ea th op with | some v => some (v, th) | none => aeffT P ea th op) = some (v, th')) :
    (match apure P ea op with | some v => some (v, th.toL) | none => match aread P ea th.toL op with | some v => some (v, th.toL) | none => aeff P ea th.toL op) = some (v, th'.toL) := by
  rw [aread_t] at h
  cases h1 : apure P ea op with
  | some u =>
    rw [h1] at h
    simp only [Option.some.injEq, Prod.mk.injEq] at h
    obtain ⟨rfl, rfl⟩ := h
    rfl
  | none =>
    rw [h1] at h
    simp only at h ⊢
    cases h2 : aread P ea th.toL op with
    | some u =>
      rw [h2] at h
      simp only [Option.some.injEq, Prod.mk.injEq] at h
      obtain ⟨rfl, rfl⟩ := h
      rfl
    | none =>
      rw [h2] at h
      simp only at h ⊢
      exact rL_some (aeff_t ea op) h
theorem aop_t {callT : ACallT} {call : ACall} (hc : CallT callT call) {ea : Operand → Value} {op : Op} {v : Value} {th' : TH} (h : aopT P callT ea th op = some (v, th')) : aop P call ea th.toL op = some (v, th'.toL) := by
  unfold aopT at h
  split at h
  · simp only [aop]
    unfold callValueT at h
    unfold callValue
    split at h
    · rename_i hf; rw [hf]; exact hc _ _ _ _ _ h
    · rename_i hf; rw [hf]; exact hc _ _ _ _ _ h
    · simp at h
  · simp only [aop]
    unfold callInvT at h
    unfold callInv
    split at h
    · rename_i hr
      rw [hr]
      simp only
      split at h
      · rename_i hm; rw [hm]; exact hc _ _ _ _ _ h
      · simp at h
    · simp at h
  · rename_i h1 h2
    have e : aop P call ea th.toL op = (match apure P ea op with | some v => some (v, th.toL) | none => match aread P ea th.toL op with | some v => some (v, th.toL) | none => aeff P ea th.toL op) := by
      unfold aop
      split
      · exact absurd rfl (h1 _ _ _)
      · exact absurd rfl (h2 _ _ _ _)
      · rfl
    rw [e]
    exact rest_t h
end Go.AMT
