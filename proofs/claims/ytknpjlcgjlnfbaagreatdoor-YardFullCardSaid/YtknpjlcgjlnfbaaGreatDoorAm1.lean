/-
  THE ABSTRACT EXECUTOR: its definitions. A deterministic functional interpreter over the model's Code, on an abstract heap: no capacities, no draws, no block numbers of the world. Am2.. prove that what it answers is what the model's machine does.
-/
import Derived.AtR
import Derived.Orders
import Derived.Scope
import Derived.RangeFuncLeaves
namespace Go.AM

/-- What the executor asks of a type. -/
structure TI where
  d : TypeDesc
  size : Nat
  bytes : Nat
  zero : Value

/-! ### Values that name no memory -/
mutual
def constOK : Value → Bool
  | .bool _ | .int _ _ | .float _ _ | .complex _ _ _ | .string _ | .nilFunc | .nilIface => true
  | .pointer none => true
  | .slice none 0 0 => true
  | .map none => true
  | .func (.func _) x y => constsOK x.toList && constsOK y.toList
  | .iface _ v => constOK v
  | .agg cs => constsOK cs.toList
  | .tuple cs => constsOK cs.toList
  | _ => false
def constsOK : List Value → Bool
  | [] => true
  | v :: l => constOK v && constsOK l
end

def ti (P : Program) (t : TypeId) : Option TI :=
  match P.underlying t, P.info? t with
  | some d, some i => match i.zero with
    | some z => if constOK z && z.cells.size == i.size then some ⟨d, i.size, i.bytes, z⟩ else none
    | none => none
  | _, _ => none

def TI.isAgg (i : TI) : Bool := match i.d with
  | .struct _ | .array _ _ => true
  | _ => false

/-- An object of the abstract heap. A row: its cells, and whether it is the run's own (to be written and appended to). -/
inductive AObj where
  | row (cells : List Value) (own : Bool)
  | dead
  | siter (s : ByteArray) (pos : Nat)
  | amap (es : List (Value × Value))
  | loop (st : LoopState) (pending : Option Code) (tmps : List Value) (params : List Tmp) (assign body : Code)

abbrev AHeap := List AObj

structure St where
  t : List Value
  h : AHeap

inductive AExit where
  | normal
  | exit (id : Nat)
  | ret

/-- The greatest length that a slice or a string may come to. -/
def lim : Nat := 2 ^ 32
def limBytes : Nat := 2 ^ 12

def aeval (t : List Value) : Operand → Value
  | .tmp i => t.getD i undef
  | .const v => v
  | .global g => .pointer (some ⟨g, 0, none⟩)
  | .func f => .func (.func f) #[] #[]

def aput (t : List Value) (dst : Option Tmp) (v : Value) : List Value :=
  match dst with
  | some d => t.set d v
  | none => t

def isCell : Value → Bool
  | .agg _ | .tuple _ => false
  | _ => true
def isData : Value → Bool
  | .tuple _ => false
  | _ => true

/-! ### Memory -/
def cells? (h : AHeap) (b : Nat) : Option (List Value) :=
  match h[b]? with
  | some (.row cs _) => some cs
  | _ => none

def loadN (h : AHeap) (b o n : Nat) : Option (List Value) :=
  match cells? h b with
  | some cs => if o + n ≤ cs.length then some ((cs.drop o).take n) else none
  | none => none

def load1 (h : AHeap) (b o : Nat) : Option Value :=
  match cells? h b with
  | some cs => cs[o]?
  | none => none

def splice (cs : List Value) (o : Nat) (vs : List Value) : List Value := cs.take o ++ vs ++ cs.drop (o + vs.length)

def storeN (h : AHeap) (b o : Nat) (vs : List Value) : Option AHeap :=
  match h[b]? with
  | some (.row cs true) => if o + vs.length ≤ cs.length && vs.all isCell then some (h.set b (.row (splice cs o vs) true)) else none
  | _ => none

def aload (P : Program) (h : AHeap) (t : TypeId) (a : Value) : Option Value :=
  match a, ti P t with
  | .pointer (some ⟨b, o, none⟩), some i =>
    if i.isAgg then (match loadN h b o i.size with | some cs => some (.agg cs.toArray) | none => none) else load1 h b o
  | _, _ => none

def astore (P : Program) (h : AHeap) (t : TypeId) (a v : Value) : Option AHeap :=
  match a, ti P t with
  | .pointer (some ⟨b, o, none⟩), some i => if v.cells.size = i.size && isData v then storeN h b o v.cells.toList else none
  | _, _ => none

def anew (h : AHeap) (cs : List Value) : Value × AHeap := (.pointer (some ⟨h.length, 0, none⟩), h ++ [.row cs true])

/-! ### Operations that look at nothing but their operands -/
def acmp (op : BinOp) (a b : Int) : Option Value :=
  match op with
  | .eql => some (.bool (a == b))
  | .neq => some (.bool (a != b))
  | .lss => some (.bool (a < b))
  | .leq => some (.bool (a ≤ b))
  | .gtr => some (.bool (a > b))
  | .geq => some (.bool (a ≥ b))
  | _ => none

def aint (op : BinOp) (k : IntKind) (a b : Int) : Option Value :=
  match op with
  | .add => some (.int k (k.wrap (a + b)))
  | .sub => some (.int k (k.wrap (a - b)))
  | .mul => some (.int k (k.wrap (a * b)))
  | .quo => if b = 0 then none else some (.int k (k.wrap (a.tdiv b)))
  | .rem => if b = 0 then none else some (.int k (a.tmod b))
  | .and => some (.int k (k.wrap (BitVec.ofInt k.bits a &&& BitVec.ofInt k.bits b).toNat))
  | .or => some (.int k (k.wrap (BitVec.ofInt k.bits a ||| BitVec.ofInt k.bits b).toNat))
  | .xor => some (.int k (k.wrap (BitVec.ofInt k.bits a ^^^ BitVec.ofInt k.bits b).toNat))
  | .andNot => some (.int k (k.wrap (BitVec.ofInt k.bits a &&& ~~~BitVec.ofInt k.bits b).toNat))
  | _ => acmp op a b

def astr (op : BinOp) (x y : ByteArray) : Option Value :=
  match op with
  | .add => if x.size + y.size ≤ 2 ^ 62 then some (.string (x ++ y)) else none
  | .eql => some (.bool (x.data.toList == y.data.toList))
  | .neq => some (.bool !(x.data.toList == y.data.toList))
  | .lss => some (.bool (Op.bytesLess x.data.toList y.data.toList))
  | .leq => some (.bool (Op.bytesLess x.data.toList y.data.toList || x.data.toList == y.data.toList))
  | .gtr => some (.bool !(Op.bytesLess x.data.toList y.data.toList || x.data.toList == y.data.toList))
  | .geq => some (.bool !(Op.bytesLess x.data.toList y.data.toList))
  | _ => none

/-- What a cell is that '==' can look at by itself. -/
inductive CK where | bool | int | str
deriving DecidableEq

/-- One cell's '=='. -/
def acellEq : CK → Value → Value → Option Bool
  | .bool, .bool a, .bool b => some (a == b)
  | .int, .int k a, .int k' b => if k = k' then some (a == b) else none
  | .str, .string a, .string b => some (a == b)
  | _, _, _ => none

/-- Types of which '==' looks at the cells one by one: their cells. -/
def flatFs (sz : TypeId → Option (List CK)) : List Field → Nat → Option (List CK)
  | [], _ => some []
  | f :: fs, acc => if f.name = "_" then none else if f.offset ≠ acc then none else match sz f.type with
    | some k => match flatFs sz fs (acc + k.length) with
      | some r => some (k ++ r)
      | none => none
    | none => none
def flatT (P : Program) : Nat → TypeId → Option (List CK)
  | 0, _ => none
  | n + 1, t => match ti P t with
    | some i => match i.d with
      | .bool => if i.size = 1 then some [.bool] else none
      | .int _ => if i.size = 1 then some [.int] else none
      | .string => if i.size = 1 then some [.str] else none
      | .struct fs => if P.stoodInHeld t then none else match flatFs (flatT P n) fs.toList 0 with
        | some s => if i.size = s.length then some s else none
        | none => none
      | .array m e => match flatT P n e with
        | some s => if i.size = m * s.length then some (List.replicate m s).flatten else none
        | none => none
      | _ => none
    | none => none
/-- The same, where no part is an interface. -/
def flat (P : Program) (t : TypeId) : Option (List CK) := if P.eqGuardType P.depth t then none else flatT P 8 t

def acellsEq : List CK → List Value → List Value → Option Bool
  | [], [], [] => some true
  | k :: ks, x :: xs, y :: ys => match acellEq k x y, acellsEq ks xs ys with
    | some a, some b => some (a && b)
    | _, _ => none
  | _, _, _ => none

/-- '==' of whatever is no number and no string. -/
def aeq (P : Program) (t : TypeId) (x y : Value) : Option Bool :=
  match x, y with
  | .bool a, .bool b => match P.underlying t with | some .bool => some (a == b) | _ => none
  | .agg xs, .agg ys => match flat P t, ti P t with | some s, some i => if i.isAgg then acellsEq s xs.toList ys.toList else none | _, _ => none
  | .pointer none, .pointer b => match P.underlying t with | some (.pointer _) => some b.isNone | _ => none
  | .pointer (some _), .pointer none => match P.underlying t with | some (.pointer _) => some false | _ => none
  | .slice none _ _, .slice b _ _ => match P.underlying t with | some (.slice _) => some b.isNone | _ => none
  | .slice (some _) _ _, .slice none _ _ => match P.underlying t with | some (.slice _) => some false | _ => none
  | .map none, .map b => match P.underlying t with | some (.map _ _) => some b.isNone | _ => none
  | .map (some _), .map none => match P.underlying t with | some (.map _ _) => some false | _ => none
  | .nilFunc, .nilFunc => match P.underlying t with | some (.func _ _ _) => some true | _ => none
  | .nilFunc, .func _ _ _ => match P.underlying t with | some (.func _ _ _) => some false | _ => none
  | .func _ _ _, .nilFunc => match P.underlying t with | some (.func _ _ _) => some false | _ => none
  | .nilIface, .iface _ _ => match P.underlying t with | some (.interface _) => some false | _ => none
  | .iface _ _, .nilIface => match P.underlying t with | some (.interface _) => some false | _ => none
  | _, _ => none

def abin (P : Program) (op : BinOp) (t : TypeId) (x y : Value) : Option Value :=
  match x, y with
  | .int k a, .int k' b =>
    match op with
    | .shl => if b < 0 then none else some (.int k (k.wrap (a * 2 ^ (min b.toNat k.bits))))
    | .shr => if b < 0 then none else some (.int k (a.fdiv (2 ^ (min b.toNat k.bits))))
    | _ => if k = k' then aint op k a b else none
  | .string a, .string b => astr op a b
  | _, _ =>
    match op with
    | .eql => match aeq P t x y with | some b => some (.bool b) | none => none
    | .neq => match aeq P t x y with | some b => some (.bool !b) | none => none
    | _ => none

def aun (op : UnOp) (x : Value) : Option Value :=
  match op, x with
  | .neg, .int k n => some (.int k (k.wrap (0 - n)))
  | .xor, .int k n => aint .xor k (if k.signed then -1 else k.max) n
  | .not, .bool b => some (.bool !b)
  | _, _ => none

def partA (P : Program) (t : TypeId) (cs : List Value) (off : Nat) : Option Value :=
  match ti P t with
  | some i => if i.isAgg then some (.agg ((cs.drop off).take i.size).toArray) else cs[off]?
  | none => none

def afill (place : Nat → Option (Nat × Nat)) (cells : List Value) : List (Nat × Value) → Option (List Value)
  | [] => some cells
  | (i, v) :: rest =>
    match place i with
    | none => none
    | some (off, size) =>
      if v.cells.size ≠ size || off + v.cells.size > cells.length || !isData v then none
      else afill place (splice cells off v.cells.toList) rest

def abuild (P : Program) (t : TypeId) (parts : List (Nat × Value)) : Option Value :=
  match ti P t with
  | some ⟨.struct fs, _, _, z⟩ =>
    match afill (fun i => (fs.map fun f => (f.offset, P.cellsOf f.type))[i]?) z.cells.toList parts with
    | some cs => if fs.all (fun f => (P.info? f.type).isSome) then some (.agg cs.toArray) else none
    | none => none
  | some ⟨.array _ e, _, _, z⟩ =>
    match ti P e with
    | some ie => match afill (fun i => some (i * ie.size, ie.size)) z.cells.toList parts with
      | some cs => some (.agg cs.toArray)
      | none => none
    | none => none
  | _ => none

def asIdx (v : Value) : Option Int := match v with | .int _ n => some n | _ => none

/-- The place behind a slice's element, a field, an array's element. -/
def aindexAddr (P : Program) (t : TypeId) (x ix : Value) : Option Value :=
  match ti P t, x, asIdx ix with
  | some ⟨.slice e, _, _, _⟩, .slice (some ⟨b, o, some sz⟩) len _, some i =>
    match ti P e with
    | some ie => if ie.size = sz && decide (0 ≤ i) && decide (i < len) then some (.pointer (some ⟨b, o + i.toNat * sz, none⟩)) else none
    | none => none
  | some ⟨.array n e, _, _, _⟩, .pointer (some ⟨b, o, none⟩), some i =>
    match ti P e with
    | some ie => if decide (0 ≤ i) && decide (i < n) then some (.pointer (some ⟨b, o + i.toNat * ie.size, none⟩)) else none
    | none => none
  | _, _, _ => none

def afieldAddr (P : Program) (t : TypeId) (x : Value) (f : Nat) : Option Value :=
  match ti P t, x with
  | some ⟨.struct fs, _, _, _⟩, .pointer (some ⟨b, o, none⟩) =>
    match fs[f]? with
    | some fd => match ti P fd.type with
      | some i => if i.size = 0 then none else some (.pointer (some ⟨b, o + fd.offset, none⟩))
      | none => none
    | none => none
  | _, _ => none

def afield (P : Program) (t : TypeId) (x : Value) (f : Nat) : Option Value :=
  match ti P t, x with
  | some ⟨.struct fs, _, _, _⟩, .agg cs => match fs[f]? with
    | some fd => partA P fd.type cs.toList fd.offset
    | none => none
  | _, _ => none

def aindex (P : Program) (t : TypeId) (x ix : Value) : Option Value :=
  match ti P t, x, asIdx ix with
  | some ⟨.array n e, _, _, _⟩, .agg cs, some i =>
    match ti P e with
    | some ie => if decide (0 ≤ i) && decide (i < n) then partA P e cs.toList (i.toNat * ie.size) else none
    | none => none
  | some ⟨.string, _, _, _⟩, .string s, some i =>
    if 0 ≤ i then (match s[i.toNat]? with | some b => some (.int .u8 b.toNat) | none => none) else none
  | _, _, _ => none

/-- A bound of a slice expression: as a number from 0 to 'top'. -/
def abound (v : Option Value) (dflt top : Nat) : Option Nat :=
  match v with
  | none => some dflt
  | some x => match asIdx x with
    | some i => if 0 ≤ i ∧ i ≤ top then some i.toNat else none
    | none => none

def aslice (P : Program) (t : TypeId) (x : Value) (lo hi mx : Option Value) : Option Value :=
  match ti P t, x with
  | some ⟨.string, _, _, _⟩, .string s =>
    match mx, abound hi s.size s.size with
    | none, some h => match abound lo 0 h with
      | some l => some (.string (s.extract l h))
      | none => none
    | _, _ => none
  | some ⟨.slice e, _, _, _⟩, .slice a len k =>
    match ti P e, abound hi len len with
    | some ie, some h =>
      match abound lo 0 h with
      | some l =>
        match mx with
        | none =>
          match a with
          | none => some (.slice none 0 0)
          | some ⟨b, o, some sz⟩ => if sz = ie.size then some (.slice (some ⟨b, o + l * sz, some sz⟩) (h - l) (if k = len ∧ h = len then h - l else h - l + 1)) else none
          | _ => none
        | some m =>
          match a, abound (some m) 0 len, hi with
          | some ⟨b, o, some sz⟩, some m, some _ => if sz = ie.size ∧ h ≤ m then some (.slice (some ⟨b, o + l * sz, some sz⟩) (h - l) (if h = m then h - l else h - l + 1)) else none
          | _, _, _ => none
      | none => none
    | _, _ => none
  | _, _ => none

/-- A slice of an array in memory. -/
def asliceArr (P : Program) (h : AHeap) (t : TypeId) (x : Value) (lo hi mx : Option Value) : Option Value :=
  match ti P t, x with
  | some ⟨.array n e, _, _, _⟩, .pointer (some ⟨b, o, none⟩) =>
    match ti P e, abound hi n n, mx, cells? h b with
    | some ie, some hh, none, some cs =>
      match abound lo 0 hh with
      | some l => if o + n * ie.size ≤ cs.length then some (.slice (some ⟨b, o + l * ie.size, some ie.size⟩) (hh - l) (if hh = n then hh - l else hh - l + 1)) else none
      | none => none
    | _, _, _, _ => none
  | _, _ => none

def aconv (P : Program) (src dst : TypeId) (x : Value) : Option Value :=
  match P.underlying src, P.underlying dst, x with
  | some _, some (.int k), .int _ n => some (.int k (k.wrap n))
  | some _, some .string, .int _ n => some (.string (Utf8.encode n))
  | some _, some .string, .string s => some (.string s)
  | _, _, _ => none

def alen (P : Program) (t : TypeId) (x : Value) : Option Value :=
  match P.underlying t, x with
  | some .string, .string s => some (goInt s.size)
  | some (.array n _), _ => some (goInt n)
  | some (.slice _), .slice _ n _ => some (goInt n)
  | some (.map _ _), .map none => some (goInt 0)
  | _, _ => none
def alenMap (P : Program) (h : AHeap) (t : TypeId) (x : Value) : Option Value :=
  match P.underlying t, x with
  | some (.map _ _), .map (some r) => match h[r]? with | some (.amap es) => some (goInt es.length) | _ => none
  | _, _ => none

def amin2 : Value → Value → Option Value
  | .int k x, .int _ y => some (.int k (if y < x then y else x))
  | .string x, .string y => match astr .leq x y with
    | some (.bool b) => some (.string (if b then x else y))
    | _ => none
  | _, _ => none
def amax2 : Value → Value → Option Value
  | .int k x, .int _ y => some (.int k (if y > x then y else x))
  | .string x, .string y => match astr .geq x y with
    | some (.bool b) => some (.string (if b then x else y))
    | _ => none
  | _, _ => none
def afold (f : Value → Value → Option Value) : Value → List Value → Option Value
  | x, [] => some x
  | x, y :: r => match f x y with | some z => afold f z r | none => none

/-- x.(T), T being no interface. -/
def atypeAssert (P : Program) (x : Value) (asserted : TypeId) (ok : Bool) : Option Value :=
  match P.underlying asserted with
  | some (.interface _) => none
  | none => none
  | some _ => match x with
    | .iface t v =>
      if t = asserted then some (if ok then .tuple #[v, .bool true] else v)
      else if ok then (match ti P asserted with | some i => some (.tuple #[i.zero, .bool false]) | none => none) else none
    | .nilIface => if ok then (match ti P asserted with | some i => some (.tuple #[i.zero, .bool false]) | none => none) else none
    | _ => none

def isConst : Operand → Bool
  | .const _ => true
  | _ => false
/-- '==' and '!=' of two nil interfaces, of which one is the literal nil. -/
def anil (P : Program) (o : BinOp) (t : TypeId) (x y : Operand) (a b : Value) : Option Value :=
  match a, b with
  | .nilIface, .nilIface =>
    match P.underlying t with
    | some (.interface _) => if isConst x || isConst y then (match o with
      | .eql => some (.bool true)
      | .neq => some (.bool false)
      | _ => none) else none
    | _ => none
  | _, _ => none

/-- Operations that need nothing but their operands. -/
def apure (P : Program) (ρ : Operand → Value) (op : Op) : Option Value :=
  match op with
  | .move x | .assign x => some (ρ x)
  | .pick c a b => match ρ c with | .bool true => some (ρ a) | .bool false => some (ρ b) | _ => none
  | .build t parts => abuild P t (parts.toList.map fun p => (p.1, ρ p.2))
  | .nilCheck x => match ρ x with | .pointer (some a) => some (.pointer (some a)) | _ => none
  | .binOp o t x y _ => match abin P o t (ρ x) (ρ y) with
    | some v => some v
    | none => anil P o t x y (ρ x) (ρ y)
  | .unOp o _ x => aun o (ρ x)
  | .convert s d x => aconv P s d (ρ x)
  | .makeInterface t x => match P.underlying t with
    | some (.interface _) => none
    | some _ => if isData (ρ x) then some (.iface t (ρ x)) else none
    | none => none
  | .makeFunc (.func f) first captured => some (.func (.func f) (first.map ρ) (captured.map ρ))
  | .slice t x lo hi mx => aslice P t (ρ x) (lo.map ρ) (hi.map ρ) (mx.map ρ)
  | .fieldAddr s x f => afieldAddr P s (ρ x) f
  | .field t x f => afield P t (ρ x) f
  | .indexAddr t x ix => aindexAddr P t (ρ x) (ρ ix)
  | .index t x ix => aindex P t (ρ x) (ρ ix)
  | .extract x i => match ρ x with | .tuple vs => vs[i]? | _ => none
  | .typeAssert x _ t ok => atypeAssert P (ρ x) t ok
  | .call { callee := .builtin .len, args, argTypes } => match args.toList, argTypes.toList with | [x], [t] => alen P t (ρ x) | _, _ => none
  | .call { callee := .builtin .min, args, .. } => match (args.toList.map ρ) with | x :: r => afold amin2 x r | [] => none
  | .call { callee := .builtin .max, args, .. } => match (args.toList.map ρ) with | x :: r => afold amax2 x r | [] => none
  | _ => none

/-! ### Maps: keys are numbers, bools and strings -/
def mapKind (P : Program) (t : TypeId) : Option (TypeDesc × TypeId) :=
  match P.underlying t with
  | some (.map k e) => match P.underlying k with
    | some (.int q) => some (.int q, e)
    | some .string => some (.string, e)
    | some .bool => some (.bool, e)
    | _ => none
  | _ => none
def afind (d : TypeDesc) (k : Value) : List (Value × Value) → Option (Option Value)
  | [] => some none
  | (k', v) :: r => match Instr.sameNow d k k' with
    | some true => some (some v)
    | some false => afind d k r
    | none => none
def aupd (d : TypeDesc) (k v : Value) : List (Value × Value) → Option (List (Value × Value))
  | [] => some [(k, v)]
  | (k', v') :: r => match Instr.sameNow d k k' with
    | some true => some ((k', v) :: r)
    | some false => match aupd d k v r with
      | some r' => some ((k', v') :: r')
      | none => none
    | none => none
def mapEs (h : AHeap) (m : Value) : Option (List (Value × Value)) :=
  match m with
  | .map none => some []
  | .map (some r) => match h[r]? with
    | some (.amap es) => some es
    | _ => none
  | _ => none
def alookup (P : Program) (h : AHeap) (t : TypeId) (m k : Value) (ok : Bool) : Option Value :=
  match mapKind P t, mapEs h m with
  | some (d, e), some es => match afind d k es, ti P e with
    | some (some v), _ => some (if ok then .tuple #[v, .bool true] else v)
    | some none, some i => some (if ok then .tuple #[i.zero, .bool false] else i.zero)
    | _, _ => none
  | _, _ => none

/-! ### Maps whose keys are arrays of numbers -/
def mapKindA (P : Program) (t : TypeId) : Option (TypeId × Nat × TypeId) :=
  match P.underlying t with
  | some (.map k e) => match P.underlying k with
    | some (.array m ie) => match P.underlying ie, ti P ie with
      | some (.int _), some i => if i.size = 1 ∧ i.isAgg = false then some (k, m, e) else none
      | _, _ => none
    | _ => none
  | _ => none
def isKeyA (m : Nat) : Value → Bool
  | .agg xs => xs.size == m
  | _ => false
def afindA (P : Program) (kt : TypeId) (k : Value) : List (Value × Value) → Option (Option Value)
  | [] => some none
  | (k', v) :: r => match aeq P kt k k' with
    | some true => some (some v)
    | some false => afindA P kt k r
    | none => none
def aupdA (P : Program) (kt : TypeId) (k v : Value) : List (Value × Value) → Option (List (Value × Value))
  | [] => some [(k, v)]
  | (k', v') :: r => match aeq P kt k k' with
    | some true => some ((k', v) :: r)
    | some false => match aupdA P kt k v r with
      | some r' => some ((k', v') :: r')
      | none => none
    | none => none
def alookupA (P : Program) (h : AHeap) (t : TypeId) (m k : Value) (ok : Bool) : Option Value :=
  match mapKindA P t, mapEs h m with
  | some (kt, q, e), some es => if isKeyA q k then (match afindA P kt k es, ti P e with
    | some (some v), _ => some (if ok then .tuple #[v, .bool true] else v)
    | some none, some i => some (if ok then .tuple #[i.zero, .bool false] else i.zero)
    | _, _ => none) else none
  | _, _ => none
def amapUpdA (P : Program) (h : AHeap) (t : TypeId) (m k x : Value) : Option AHeap :=
  match mapKindA P t, m with
  | some (kt, q, _), .map (some r) => if isKeyA q k then (match h[r]? with
    | some (.amap es) => match aupdA P kt k x es with
      | some es' => some (h.set r (.amap es'))
      | none => none
    | _ => none) else none
  | _, _ => none
/-- delete(m, k). -/
def adel (d : TypeDesc) (k : Value) : List (Value × Value) → Option (List (Value × Value))
  | [] => some []
  | (k', v') :: r => match Instr.sameNow d k k' with
    | some true => some r
    | some false => match adel d k r with
      | some r' => some ((k', v') :: r')
      | none => none
    | none => none
def adelete (P : Program) (h : AHeap) (t : TypeId) (m k : Value) : Option AHeap :=
  match mapKind P t, m with
  | some (d, _), .map (some r) => match h[r]? with
    | some (.amap es) => match adel d k es with
      | some es' => some (h.set r (.amap es'))
      | none => none
    | _ => none
  | _, _ => none

/-- Operations that read the heap. -/
def bytesL : List Value → Option (List UInt8)
  | [] => some []
  | v :: l => match v, bytesL l with
    | .int .u8 n, some r => some (UInt8.ofNat n.toNat :: r)
    | _, _ => none
/-- A slice of bytes as a string. -/
def abytes (P : Program) (h : AHeap) (s d : TypeId) (x : Value) : Option Value :=
  match P.underlying s, P.underlying d, x with
  | some (.slice e), some .string, .slice none _ _ => (match P.underlying e with | some (.int .u8) => some (.string .empty) | _ => none)
  | some (.slice e), some .string, .slice (some ⟨b, o, some sz⟩) n _ => (match P.underlying e with
    | some (.int .u8) => bif Nat.beq sz 1 && Nat.blt 0 n then (match loadN h b o n with
      | some cs => (match bytesL cs with | some l => some (.string ⟨⟨l⟩⟩) | none => none)
      | none => none) else none
    | _ => none)
  | _, _, _ => none

def aread (P : Program) (ρ : Operand → Value) (h : AHeap) (op : Op) : Option Value :=
  match op with
  | .load t a => aload P h t (ρ a)
  | .slice t x lo hi mx => asliceArr P h t (ρ x) (lo.map ρ) (hi.map ρ) (mx.map ρ)
  | .lookup t m k ok => match alookup P h t (ρ m) (ρ k) ok with
    | some v => some v
    | none => alookupA P h t (ρ m) (ρ k) ok
  | .call { callee := .builtin .len, args, argTypes } => match args.toList, argTypes.toList with | [x], [t] => alenMap P h t (ρ x) | _, _ => none
  | .convert s d x => abytes P h s d (ρ x)
  | _ => none

def loadElems (h : AHeap) (sz : Nat) : Value → Option (List Value)
  | .slice none 0 _ => some []
  | .slice (some ⟨b, o, some s⟩) n _ => if s = sz then loadN h b o (n * sz) else none
  | .string s => if sz = 1 then some (s.data.toList.map fun b => .int .u8 b.toNat) else none
  | _ => none
def elemsLen : Value → Option Nat
  | .slice _ n _ => some n
  | .string s => some s.size
  | _ => none

def aappend (P : Program) (h : AHeap) (sT : TypeId) (s x : Value) : Option (Value × AHeap) :=
  match ti P sT, s, elemsLen x with
  | some ⟨.slice e, _, _, _⟩, .slice a len k, some m =>
    match ti P e with
    | some ie =>
      if m = 0 then some (.slice a len k, h)
      else if len + m ≤ lim && ie.bytes ≤ limBytes && 0 < ie.size then
        match loadElems h ie.size x, a with
        | some new, none => some (.slice (some ⟨h.length, 0, some ie.size⟩) (len + m) (len + m + 1), h ++ [.row new true])
        | some new, some ⟨b, o, some sz⟩ =>
          if sz = ie.size then
            match loadN h b o (len * sz), h[b]? with
            | some old, some (.row _ own) =>
              if k = len then some (.slice (some ⟨h.length, 0, some sz⟩) (len + m) (len + m + 1), h ++ [.row (old ++ new) true])
              else if own && new.all isCell then some (.slice (some ⟨h.length, 0, some sz⟩) (len + m) (len + m + 1), h.set b .dead ++ [.row (old ++ new) true])
              else none
            | _, _ => none
          else none
        | _, _ => none
      else none
    | none => none
  | _, _, _ => none

def zerosOf (z : List Value) : Nat → List Value
  | 0 => []
  | n + 1 => z ++ zerosOf z n

def amakeSlice (P : Program) (h : AHeap) (t : TypeId) (l c : Value) : Option (Value × AHeap) :=
  match ti P t, asIdx l, asIdx c with
  | some ⟨.slice e, _, _, _⟩, some l, some c =>
    match ti P e with
    | some ie => if 0 ≤ l ∧ l ≤ c ∧ c ≤ lim ∧ ie.bytes ≤ limBytes ∧ 0 < ie.size then
        some (.slice (some ⟨h.length, 0, some ie.size⟩) l.toNat (if l = c then l.toNat else l.toNat + 1), h ++ [.row (zerosOf ie.zero.cells.toList l.toNat) true])
      else none
    | none => none
  | _, _, _ => none

def abuildSlice (P : Program) (h : AHeap) (t : TypeId) (len : Nat) (parts : List (Nat × Value)) : Option (Value × AHeap) :=
  match ti P t with
  | some ⟨.slice e, _, _, _⟩ =>
    match ti P e with
    | some ie => if len * ie.size ≤ 2 ^ 24 ∧ 0 < ie.size then
        match afill (fun i => some (i * ie.size, ie.size)) (zerosOf ie.zero.cells.toList len) parts with
        | some cs => some (.slice (some ⟨h.length, 0, some ie.size⟩) len len, h ++ [.row cs true])
        | none => none
      else none
    | none => none
  | _ => none

def anext (h : AHeap) (it : Value) : Option (Value × AHeap) :=
  match it with
  | .pointer (some ⟨r, 0, none⟩) =>
    match h[r]? with
    | some (.siter s pos) =>
      if pos < s.size then
        some (.tuple #[.bool true, goInt pos, .int .i32 (Utf8.decode s pos).1], h.set r (.siter s (pos + (Utf8.decode s pos).2)))
      else some (.tuple #[.bool false], h)
    | _ => none
  | _ => none

def amapUpd (P : Program) (h : AHeap) (t : TypeId) (m k x : Value) : Option AHeap :=
  match mapKind P t, m with
  | some (d, _), .map (some r) => match h[r]? with
    | some (.amap es) => match aupd d k x es with
      | some es' => some (h.set r (.amap es'))
      | none => none
    | _ => none
  | _, _ => none
def aclear (P : Program) (h : AHeap) (t : TypeId) (x : Value) : Option AHeap :=
  match P.underlying t, x with
  | some (.slice _), .slice none _ _ => some h
  | some (.slice e), .slice (some ⟨b, o, some sz⟩) n _ => match ti P e with
    | some i => if n = 0 then some h else if sz = i.size ∧ 0 < i.size then storeN h b o (zerosOf i.zero.cells.toList n) else none
    | none => none
  | some (.map _ _), .map none => some h
  | some (.map _ _), .map (some r) => match h[r]? with
    | some (.amap _) => some (h.set r (.amap []))
    | _ => none
  | _, _ => none

/-- copy(dst, src). -/
def acopy (P : Program) (h : AHeap) (t : TypeId) (dst src : Value) : Option (Value × AHeap) :=
  match P.underlying t, dst, elemsLen src with
  | some (.slice e), .slice (some ⟨b, o, some sz⟩) len _, some m => match ti P e with
    | some ie => if sz = ie.size ∧ m ≤ len ∧ 0 < m then (match loadElems h ie.size src with
      | some cs => (match storeN h b o cs with
        | some h' => some (goInt m, h')
        | none => none)
      | none => none) else none
    | none => none
  | _, _, _ => none

/-- Operations that change the heap, other than calls. -/
def aeff (P : Program) (ρ : Operand → Value) (h : AHeap) (op : Op) : Option (Value × AHeap) :=
  match op with
  | .alloc e => match ti P e with
    | some i => if isData i.zero then some (anew h i.zero.cells.toList) else none
    | none => none
  | .box _ x => if isData (ρ x) then some (anew h (ρ x).cells.toList) else none
  | .buildSlice t len parts => abuildSlice P h t len (parts.toList.map fun p => (p.1, ρ p.2))
  | .store t a x => match astore P h t (ρ a) (ρ x) with | some h' => some (undef, h') | none => none
  | .makeSlice t l c => amakeSlice P h t (ρ l) (ρ c)
  | .range t x => match P.underlying t, ρ x with
    | some .string, .string s => some (.pointer (some ⟨h.length, 0, none⟩), h ++ [.siter s 0])
    | _, _ => none
  | .next it true => anext h (ρ it)
  | .convert s d x => match P.underlying s, P.underlying d, ρ x with
    | some _, some (.slice e), .string b => match P.underlying e with
      | some (.int .u8) => if b.size ≤ lim then some (.slice (some ⟨h.length, 0, some 1⟩) b.size (b.size + 1), h ++ [.row (b.data.toList.map fun c => .int .u8 c.toNat) true]) else none
      | _ => none
    | _, _, _ => none
  | .call { callee := .builtin .append, args, argTypes } =>
    match args.toList, argTypes.toList with
    | [s, x], [sT, xT] => match P.underlying xT with
      | some (.int _) => none
      | some _ => aappend P h sT (ρ s) (ρ x)
      | none => none
    | _, _ => none
  | .call { callee := .builtin .clear, args, argTypes } =>
    match args.toList, argTypes.toList with
    | [x], [t] => match aclear P h t (ρ x) with
      | some h' => some (.tuple #[], h')
      | none => none
    | _, _ => none
  | .makeMap _ none => some (.map (some h.length), h ++ [.amap []])
  | .mapUpdate t m k x => match amapUpd P h t (ρ m) (ρ k) (ρ x) with
    | some h' => some (undef, h')
    | none => (match amapUpdA P h t (ρ m) (ρ k) (ρ x) with
      | some h' => some (undef, h')
      | none => none)
  | .insert t m k x => match amapUpd P h t (ρ m) (ρ k) (ρ x) with
    | some h' => some (undef, h')
    | none => (match amapUpdA P h t (ρ m) (ρ k) (ρ x) with
      | some h' => some (undef, h')
      | none => none)
  | .call { callee := .builtin .delete, args, argTypes } =>
    match args.toList, argTypes.toList with
    | [m, k], t :: _ => match adelete P h t (ρ m) (ρ k) with
      | some h' => some (.tuple #[], h')
      | none => none
    | _, _ => none
  | .call { callee := .builtin .copy, args, argTypes } =>
    match args.toList, argTypes.toList with
    | [d, s], t :: _ => acopy P h t (ρ d) (ρ s)
    | _, _ => none
  | _ => none

/-! ### Code -/
inductive Tg where
  | fn (f : FuncId)
  | yield (l : Nat)
abbrev ACall := Tg → List Value → AHeap → Option (Value × AHeap)

def callValue (call : ACall) (f : Value) (args : List Value) (h : AHeap) : Option (Value × AHeap) :=
  match f with
  | .func (.func g) first captured => call (.fn g) (first.toList ++ args ++ captured.toList) h
  | .func (.yield l) _ _ => call (.yield l) args h
  | _ => none

/-- A method of what an interface holds: the function, by the type's table. -/
def methodOf (P : Program) (t : TypeId) (name : String) : Option FuncId :=
  match P.info? t, P.underlying t with
  | some i, some d => match i.methods.find? (·.name == name) with
    | some m => if m.path.isEmpty then (match m.func, d with
      | some (f, true), .pointer _ => some f
      | some (_, _), .pointer _ => none
      | some (f, false), _ => some f
      | _, _ => none) else none
    | none => none
  | _, _ => none
def callInv (P : Program) (call : ACall) (recv : Value) (name : String) (args : List Value) (h : AHeap) : Option (Value × AHeap) :=
  match recv with
  | .iface t v => match methodOf P t name with
    | some f => call (.fn f) (v :: args) h
    | none => none
  | _ => none

/-- One operation. -/
def aop (P : Program) (call : ACall) (ρ : Operand → Value) (h : AHeap) (op : Op) : Option (Value × AHeap) :=
  match op with
  | .call { callee := .value f, args, .. } => callValue call (ρ f) (args.toList.map ρ) h
  | .call { callee := .invoke recv name, args, .. } => callInv P call (ρ recv) name (args.toList.map ρ) h
  | op => match apure P ρ op with
    | some v => some (v, h)
    | none => match aread P ρ h op with
      | some v => some (v, h)
      | none => aeff P ρ h op

def ayielded (ops : Array Oper) (t : List Value) (j : Nat) : Option Bool :=
  match ((ops[j]?).bind (·.dst)).bind (t[·]?) with
  | some (.bool b) => some b
  | _ => none

/-- A region's operations in a given order. -/
def aops (P : Program) (call : ACall) (ops : Array Oper) : List Nat → St → Option St
  | [], s => some s
  | i :: r, s =>
    match ops[i]? with
    | none => none
    | some o =>
      if Region.wanted o (ayielded ops s.t) then
        match aop P call (aeval s.t) s.h o.op with
        | some (v, h) => aops P call ops r ⟨aput s.t o.dst v, h⟩
        | none => none
      else aops P call ops r ⟨aput s.t o.dst undef, s.h⟩

/-! ### Regions that draw their order -/
/-- 0: looks at its operands alone; 1: reads; 2: changes the heap, or calls. -/
def kindOf (P : Program) (op : Op) : Nat :=
  match op with
  | .convert s d _ => match P.underlying s, P.underlying d with | some (.slice _), _ => 2 | _, some (.slice _) => 2 | _, _ => 0
  | .slice t _ _ _ _ => match P.underlying t with | some (.array _ _) => 1 | _ => 0
  | .move _ | .assign _ | .pick .. | .build .. | .nilCheck _ | .binOp .. | .unOp .. | .makeInterface .. | .makeFunc .. | .fieldAddr .. | .field .. | .indexAddr .. | .index .. | .extract .. => 0
  | .call { callee := .builtin .min, .. } | .call { callee := .builtin .max, .. } | .call { callee := .builtin .len, .. } => 0
  | .load .. => 1
  | .lookup .. => 1
  | _ => 2
/-- Operations that lay a new object and look at nothing but their operands. -/
def isAl : Op → Bool
  | .alloc _ | .box _ _ | .buildSlice .. | .makeSlice .. | .makeMap _ none => true
  | _ => false

/-- For each operation, as bits, those that must come before it. -/
def befs : List Oper → List Nat → List Nat
  | [], acc => acc
  | o :: r, acc => befs r (acc ++ [o.after.toList.foldl (fun s e => if Region.binds .any e then s ||| 2 ^ e.on ||| acc.getD e.on 0 else s) 0])

def tmpOf : Operand → Option Tmp
  | .tmp t => some t
  | _ => none

/-- The slots that an operation reads, tests or writes. -/
def looksAt (ops : List Oper) (o : Oper) : List Tmp :=
  o.dst.toList ++ o.op.operands.toList.filterMap tmpOf ++ (match o.guard with | some (j, _) => ((ops[j]?).bind (·.dst)).toList | none => [])

def apartOf (b : List Nat) (i j : Nat) : Bool := if j < i then (b.getD i 0).testBit j else (b.getD j 0).testBit i

/-- All effects of the first n that stand before i, as bits. -/
def effsIn (P : Program) (l : List Oper) (b : Nat) : Nat → Bool
  | 0 => true
  | n + 1 => effsIn P l b n && (match l[n]? with | some q => !(kindOf P q.op == 2) || b.testBit n | none => true)

/-- The static part: what may come in either order does not touch what the other looks at; effects follow each other, but one that lays a new object may come ahead of what is told before it. -/
def drawOK (P : Program) (ops : Array Oper) : Bool :=
  let l := ops.toList
  let b := befs l []
  (List.range l.length).all fun i =>
    match l[i]? with
    | none => false
    | some o =>
      (o.after.toList.all fun e => !Region.binds .any e || decide (e.on < i)) &&
      ((List.range l.length).all fun j =>
        match l[j]? with
        | none => false
        | some q =>
          j == i ||
          ((match q.dst with | some d => !(looksAt l o).contains d || apartOf b i j | none => true) &&
           (!(kindOf P o.op == 2 && kindOf P q.op == 2) || apartOf b i j || (if j < i then isAl o.op else isAl q.op)))) &&
      (!isAl o.op || effsIn P l (b.getD i 0) i || (List.range l.length).all fun k => !(b.getD k 0).testBit i || effsIn P l (b.getD k 0) i)

/-- The effects that may come before or behind i. -/
def floats (P : Program) (ops : Array Oper) (i : Nat) : List Nat :=
  let l := ops.toList
  let b := befs l []
  (List.range l.length).filter fun j => (match l[j]? with | some q => kindOf P q.op == 2 | none => false) && j != i && !apartOf b i j

mutual
/-- Two values are one, seen in a finite look. -/
def same : Value → Value → Bool
  | .bool a, .bool b => a == b
  | .int j a, .int k b => j == k && a == b
  | .float j a, .float k b => j == k && a == b
  | .complex j a c, .complex k b d => j == k && a == b && c == d
  | .string a, .string b => a.data.toList == b.data.toList
  | .pointer a, .pointer b => a == b
  | .slice a m k, .slice b n l => a == b && m == n && k == l
  | .map a, .map b => a == b
  | .chan a, .chan b => a == b
  | .nilIface, .nilIface => true
  | .nilFunc, .nilFunc => true
  | .func f z x, .func g z' y => f == g && sameA z z' && sameA x y
  | .iface t a, .iface u b => t == u && same a b
  | .agg a, .agg b => sameA a b
  | .tuple a, .tuple b => sameA a b
  | _, _ => false
termination_by structural a => a
def sameA : Array Value → Array Value → Bool
  | ⟨a⟩, ⟨b⟩ => sameL a b
termination_by structural a => a
def sameL : List Value → List Value → Bool
  | [], [] => true
  | a :: l, b :: m => same a b && sameL l m
  | _, _ => false
termination_by structural a => a
end

/-- In the text's order, but what is read is read again behind (or had been before) each effect that it may pass. 'hs': the heaps before the effects that are done, with their numbers; 'rs': what was read. -/
def adraw (P : Program) (call : ACall) (ops : Array Oper) : List Nat → St → List (Nat × AHeap) → List (Nat × TypeId × Value × Value) → Option St
  | [], s, _, _ => some s
  | i :: r, s, hs, rs =>
    match ops[i]? with
    | none => none
    | some o =>
      if Region.wanted o (ayielded ops s.t) then
        match kindOf P o.op with
        | 0 => match apure P (aeval s.t) o.op with
          | some v => adraw P call ops r ⟨aput s.t o.dst v, s.h⟩ hs rs
          | none => none
        | 1 => match o.op with
          | .load t a => match aload P s.h t (aeval s.t a) with
            | some v =>
              if (hs.all fun p => !(floats P ops i).contains p.1 || (match aload P p.2 t (aeval s.t a) with | some v' => same v v' | none => false)) then
                adraw P call ops r ⟨aput s.t o.dst v, s.h⟩ hs (if (floats P ops i).isEmpty then rs else (i, t, aeval s.t a, v) :: rs)
              else none
            | none => none
          | op => match aread P (aeval s.t) s.h op with
            | some v => if (floats P ops i).isEmpty then adraw P call ops r ⟨aput s.t o.dst v, s.h⟩ hs rs else none
            | none => none
        | _ => match aop P call (aeval s.t) s.h o.op with
          | some (v, h) =>
            if (rs.all fun p => !(floats P ops p.1).contains i || (match aload P h p.2.1 p.2.2.1 with | some v' => same p.2.2.2 v' | none => false)) then
              adraw P call ops r ⟨aput s.t o.dst v, h⟩ ((i, s.h) :: hs) rs
            else none
          | none => none
      else adraw P call ops r ⟨aput s.t o.dst undef, s.h⟩ hs rs

def aregion (P : Program) (call : ACall) (ops : Array Oper) (draw : Bool) (s : St) : Option St :=
  if draw then (if drawOK P ops then adraw P call ops (List.range ops.size) s [] [] else none)
  else aops P call ops (List.range ops.size) s

def aloop (body : St → Option (AExit × St)) : Nat → St → Option (AExit × St)
  | 0, _ => none
  | n + 1, s => match body s with
    | some (.normal, s') => aloop body n s'
    | r => r

def jumpOf : AExit → Option Code
  | .normal => none
  | .ret => some .ret
  | .exit id => some (.exit id)
def exitOf : Option Code → Option AExit
  | none => some .normal
  | some .ret => some .ret
  | some (.exit id) => some (.exit id)
  | _ => none

def inRound (h : AHeap) : Option Nat → Bool
  | none => true
  | some l => match h[l]? with
    | some (.loop ..) => true
    | _ => false

/-- Code. ro: the loop whose round this is, if it is one's. -/
def aex (P : Program) (call : ACall) (n : Nat) (ro : Option Nat) : Code → St → Option (AExit × St)
  | .skip, s => some (.normal, s)
  | .label _, s => some (.normal, s)
  | .region _ ops draw, s => match aregion P call ops draw s with
    | some s' => some (.normal, s')
    | none => none
  | .seq a b, s => match aex P call n ro a s with
    | some (.normal, s') => aex P call n ro b s'
    | r => r
  | .cond c x y, s => match aeval s.t c with
    | .bool true => aex P call n ro x s
    | .bool false => aex P call n ro y s
    | _ => none
  | .block id body, s => match aex P call n ro body s with
    | some (.exit i, s') => if i = id then some (.normal, s') else some (.exit i, s')
    | r => r
  | .loop body, s => aloop (aex P call n ro body) n s
  | .exit id, s => some (.exit id, s)
  | .scope body, s => aex P call n ro body s
  | .ret, s => some (.ret, s)
  | .rangeFunc f params assign body, s =>
    match aeval s.t f with
    | .func (.func g) first captured =>
      if inRound s.h ro then
        match call (.fn g) (first.toList ++ [.func (.yield s.h.length) #[] #[]] ++ captured.toList) (s.h ++ [.loop .ready none s.t params.toList assign body]) with
        | some (_, h) => match h[s.h.length]? with
          | some (.loop st pending ts ps as bd) =>
            if st = .busy then none else
            match exitOf pending with
            | some e => some (e, ⟨s.t, h.set s.h.length (.loop .exhausted pending ts ps as bd)⟩)
            | none => none
          | _ => none
        | none => none
      else none
    | _ => none
  | _, _ => none

def aresult (P : Program) (t : List Value) (h : AHeap) : ResultVar → Option Value
  | .tmp i => some (t.getD i undef)
  | .cell a ty => aload P h ty (t.getD a undef)
def aresultsL (P : Program) (t : List Value) (h : AHeap) : List ResultVar → Option (List Value)
  | [] => some []
  | r :: rs => match aresult P t h r, aresultsL P t h rs with
    | some v, some vs => some (v :: vs)
    | _, _ => none
def aresults (P : Program) (rs : List ResultVar) (t : List Value) (h : AHeap) : Option Value :=
  match aresultsL P t h rs with
  | some [v] => some v
  | some vs => some (.tuple vs.toArray)
  | none => none

/-- What is told of functions by contracts of their own. -/
abbrev Ext := FuncId → Option (List Value → AHeap → Option (Value × AHeap))

def acall (P : Program) (X : Ext) : Nat → ACall
  | 0 => fun _ _ _ => none
  | n + 1 => fun g args h =>
    match g with
    | .fn f =>
      match X f with
      | some c => c args h
      | none =>
        match P.funcs[f]? with
        | some fn => match fn.body with
          | some c => match aex P (acall P X n) n none c ⟨args ++ List.replicate (fn.ntmps - args.length) undef, h⟩ with
            | some (.normal, s) => (match aresults P fn.results.toList s.t s.h with | some v => some (v, s.h) | none => none)
            | some (.ret, s) => (match aresults P fn.results.toList s.t s.h with | some v => some (v, s.h) | none => none)
            | _ => none
          | none => none
        | none => none
    | .yield l =>
      match h[l]? with
      | some (.loop .ready _ ts ps assign body) =>
        if args.length = ps.length then
          match aex P (acall P X n) n (some l) assign ⟨(ps.zip args).foldl (fun t p => t.set p.1 p.2) ts, h⟩ with
          | some (.normal, s) => match s.h[l]? with
            | some (.loop .ready pd ts' ps' as' bd') =>
              match aex P (acall P X n) n (some l) body ⟨s.t, s.h.set l (.loop .busy pd ts' ps' as' bd')⟩ with
              | some (e, s2) => match s2.h[l]? with
                | some (.loop _ _ ts2 ps2 as2 bd2) => some (.bool (jumpOf e).isNone, s2.h.set l (.loop (if (jumpOf e).isNone then .ready else .done) (jumpOf e) ts2 ps2 as2 bd2))
                | _ => none
              | none => none
            | _ => none
          | _ => none
        else none
      | _ => none

end Go.AM
