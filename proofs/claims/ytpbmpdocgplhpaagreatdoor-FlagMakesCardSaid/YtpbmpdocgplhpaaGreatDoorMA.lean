/-
  MERGED BY PROGRAM out of the texts Am1 Am2 Am3 Am4 Am5 Am6 Am7 Am8 Am9 Am9m.
-/
import Derived.AtR
import Derived.Orders
import Derived.Scope
import Derived.RangeFuncLeaves
import Derived.WideLaws
import Derived.Laws.Strings
import Derived.Laws.Append
import Derived.Laws.MakeOwn

/-
  THE ABSTRACT EXECUTOR: its definitions. A deterministic functional interpreter over the model's Code, on an abstract heap: no capacities, no draws, no block numbers of the world. Am2.. prove that what it answers is what the model's machine does.
-/
namespace Go.AM

/-- What the executor asks of a type. -/
structure TI where
  d : TypeDesc
  size : Nat
  bytes : Nat
  zero : Value

/-! ### Values that name no memory -/
mutual
def constOK : Value → Bool
  | .bool _ | .int _ _ | .float _ _ | .complex _ _ _ | .string _ | .nilFunc | .nilIface => true
  | .pointer none => true
  | .slice none 0 0 => true
  | .map none => true
  | .func (.func _) x y => constsOK x.toList && constsOK y.toList
  | .iface _ v => constOK v
  | .agg cs => constsOK cs.toList
  | .tuple cs => constsOK cs.toList
  | _ => false
def constsOK : List Value → Bool
  | [] => true
  | v :: l => constOK v && constsOK l
end

def ti (P : Program) (t : TypeId) : Option TI :=
  match P.underlying t, P.info? t with
  | some d, some i => match i.zero with
    | some z => if constOK z && z.cells.size == i.size then some ⟨d, i.size, i.bytes, z⟩ else none
    | none => none
  | _, _ => none

def TI.isAgg (i : TI) : Bool := match i.d with
  | .struct _ | .array _ _ => true
  | _ => false

/-- An object of the abstract heap. A row: its cells, and whether it is the run's own (to be written and appended to). -/
inductive AObj where
  | row (cells : List Value) (own : Bool)
  | dead
  | siter (s : ByteArray) (pos : Nat)
  | amap (es : List (Value × Value))
  | loop (st : LoopState) (pending : Option Code) (tmps : List Value) (params : List Tmp) (assign body : Code)

abbrev AHeap := List AObj

structure St where
  t : List Value
  h : AHeap

inductive AExit where
  | normal
  | exit (id : Nat)
  | ret

/-- The greatest length that a slice or a string may come to. -/
def lim : Nat := 2 ^ 32
def limBytes : Nat := 2 ^ 12

def aeval (t : List Value) : Operand → Value
  | .tmp i => t.getD i undef
  | .const v => v
  | .global g => .pointer (some ⟨g, 0, none⟩)
  | .func f => .func (.func f) #[] #[]

def aput (t : List Value) (dst : Option Tmp) (v : Value) : List Value :=
  match dst with
  | some d => t.set d v
  | none => t

def isCell : Value → Bool
  | .agg _ | .tuple _ => false
  | _ => true
def isData : Value → Bool
  | .tuple _ => false
  | _ => true

/-! ### Memory -/
def cells? (h : AHeap) (b : Nat) : Option (List Value) :=
  match h[b]? with
  | some (.row cs _) => some cs
  | _ => none

def loadN (h : AHeap) (b o n : Nat) : Option (List Value) :=
  match cells? h b with
  | some cs => if o + n ≤ cs.length then some ((cs.drop o).take n) else none
  | none => none

def load1 (h : AHeap) (b o : Nat) : Option Value :=
  match cells? h b with
  | some cs => cs[o]?
  | none => none

def splice (cs : List Value) (o : Nat) (vs : List Value) : List Value := cs.take o ++ vs ++ cs.drop (o + vs.length)

def storeN (h : AHeap) (b o : Nat) (vs : List Value) : Option AHeap :=
  match h[b]? with
  | some (.row cs true) => if o + vs.length ≤ cs.length && vs.all isCell then some (h.set b (.row (splice cs o vs) true)) else none
  | _ => none

def aload (P : Program) (h : AHeap) (t : TypeId) (a : Value) : Option Value :=
  match a, ti P t with
  | .pointer (some ⟨b, o, none⟩), some i =>
    if i.isAgg then (match loadN h b o i.size with | some cs => some (.agg cs.toArray) | none => none) else load1 h b o
  | _, _ => none

def astore (P : Program) (h : AHeap) (t : TypeId) (a v : Value) : Option AHeap :=
  match a, ti P t with
  | .pointer (some ⟨b, o, none⟩), some i => if v.cells.size = i.size && isData v then storeN h b o v.cells.toList else none
  | _, _ => none

def anew (h : AHeap) (cs : List Value) : Value × AHeap := (.pointer (some ⟨h.length, 0, none⟩), h ++ [.row cs true])

/-! ### Operations that look at nothing but their operands -/
def acmp (op : BinOp) (a b : Int) : Option Value :=
  match op with
  | .eql => some (.bool (a == b))
  | .neq => some (.bool (a != b))
  | .lss => some (.bool (a < b))
  | .leq => some (.bool (a ≤ b))
  | .gtr => some (.bool (a > b))
  | .geq => some (.bool (a ≥ b))
  | _ => none

def aint (op : BinOp) (k : IntKind) (a b : Int) : Option Value :=
  match op with
  | .add => some (.int k (k.wrap (a + b)))
  | .sub => some (.int k (k.wrap (a - b)))
  | .mul => some (.int k (k.wrap (a * b)))
  | .quo => if b = 0 then none else some (.int k (k.wrap (a.tdiv b)))
  | .rem => if b = 0 then none else some (.int k (a.tmod b))
  | .and => some (.int k (k.wrap (BitVec.ofInt k.bits a &&& BitVec.ofInt k.bits b).toNat))
  | .or => some (.int k (k.wrap (BitVec.ofInt k.bits a ||| BitVec.ofInt k.bits b).toNat))
  | .xor => some (.int k (k.wrap (BitVec.ofInt k.bits a ^^^ BitVec.ofInt k.bits b).toNat))
  | .andNot => some (.int k (k.wrap (BitVec.ofInt k.bits a &&& ~~~BitVec.ofInt k.bits b).toNat))
  | _ => acmp op a b

def astr (op : BinOp) (x y : ByteArray) : Option Value :=
  match op with
  | .add => if x.size + y.size ≤ 2 ^ 62 then some (.string (x ++ y)) else none
  | .eql => some (.bool (x.data.toList == y.data.toList))
  | .neq => some (.bool !(x.data.toList == y.data.toList))
  | .lss => some (.bool (Op.bytesLess x.data.toList y.data.toList))
  | .leq => some (.bool (Op.bytesLess x.data.toList y.data.toList || x.data.toList == y.data.toList))
  | .gtr => some (.bool !(Op.bytesLess x.data.toList y.data.toList || x.data.toList == y.data.toList))
  | .geq => some (.bool !(Op.bytesLess x.data.toList y.data.toList))
  | _ => none

/-- What a cell is that '==' can look at by itself. -/
inductive CK where | bool | int | str
deriving DecidableEq

/-- One cell's '=='. -/
def acellEq : CK → Value → Value → Option Bool
  | .bool, .bool a, .bool b => some (a == b)
  | .int, .int k a, .int k' b => if k = k' then some (a == b) else none
  | .str, .string a, .string b => some (a == b)
  | _, _, _ => none

/-- Types of which '==' looks at the cells one by one: their cells. -/
def flatFs (sz : TypeId → Option (List CK)) : List Field → Nat → Option (List CK)
  | [], _ => some []
  | f :: fs, acc => if f.name = "_" then none else if f.offset ≠ acc then none else match sz f.type with
    | some k => match flatFs sz fs (acc + k.length) with
      | some r => some (k ++ r)
      | none => none
    | none => none
def flatT (P : Program) : Nat → TypeId → Option (List CK)
  | 0, _ => none
  | n + 1, t => match ti P t with
    | some i => match i.d with
      | .bool => if i.size = 1 then some [.bool] else none
      | .int _ => if i.size = 1 then some [.int] else none
      | .string => if i.size = 1 then some [.str] else none
      | .struct fs => if P.stoodInHeld t then none else match flatFs (flatT P n) fs.toList 0 with
        | some s => if i.size = s.length then some s else none
        | none => none
      | .array m e => match flatT P n e with
        | some s => if i.size = m * s.length then some (List.replicate m s).flatten else none
        | none => none
      | _ => none
    | none => none
/-- The same, where no part is an interface. -/
def flat (P : Program) (t : TypeId) : Option (List CK) := if P.eqGuardType P.depth t then none else flatT P 8 t

def acellsEq : List CK → List Value → List Value → Option Bool
  | [], [], [] => some true
  | k :: ks, x :: xs, y :: ys => match acellEq k x y, acellsEq ks xs ys with
    | some a, some b => some (a && b)
    | _, _ => none
  | _, _, _ => none

/-- '==' of whatever is no number and no string. -/
def aeq (P : Program) (t : TypeId) (x y : Value) : Option Bool :=
  match x, y with
  | .bool a, .bool b => match P.underlying t with | some .bool => some (a == b) | _ => none
  | .agg xs, .agg ys => match flat P t, ti P t with | some s, some i => if i.isAgg then acellsEq s xs.toList ys.toList else none | _, _ => none
  | .pointer none, .pointer b => match P.underlying t with | some (.pointer _) => some b.isNone | _ => none
  | .pointer (some _), .pointer none => match P.underlying t with | some (.pointer _) => some false | _ => none
  | .slice none _ _, .slice b _ _ => match P.underlying t with | some (.slice _) => some b.isNone | _ => none
  | .slice (some _) _ _, .slice none _ _ => match P.underlying t with | some (.slice _) => some false | _ => none
  | .map none, .map b => match P.underlying t with | some (.map _ _) => some b.isNone | _ => none
  | .map (some _), .map none => match P.underlying t with | some (.map _ _) => some false | _ => none
  | .nilFunc, .nilFunc => match P.underlying t with | some (.func _ _ _) => some true | _ => none
  | .nilFunc, .func _ _ _ => match P.underlying t with | some (.func _ _ _) => some false | _ => none
  | .func _ _ _, .nilFunc => match P.underlying t with | some (.func _ _ _) => some false | _ => none
  | .nilIface, .iface _ _ => match P.underlying t with | some (.interface _) => some false | _ => none
  | .iface _ _, .nilIface => match P.underlying t with | some (.interface _) => some false | _ => none
  | _, _ => none

def abin (P : Program) (op : BinOp) (t : TypeId) (x y : Value) : Option Value :=
  match x, y with
  | .int k a, .int k' b =>
    match op with
    | .shl => if b < 0 then none else some (.int k (k.wrap (a * 2 ^ (min b.toNat k.bits))))
    | .shr => if b < 0 then none else some (.int k (a.fdiv (2 ^ (min b.toNat k.bits))))
    | _ => if k = k' then aint op k a b else none
  | .string a, .string b => astr op a b
  | _, _ =>
    match op with
    | .eql => match aeq P t x y with | some b => some (.bool b) | none => none
    | .neq => match aeq P t x y with | some b => some (.bool !b) | none => none
    | _ => none

def aun (op : UnOp) (x : Value) : Option Value :=
  match op, x with
  | .neg, .int k n => some (.int k (k.wrap (0 - n)))
  | .xor, .int k n => aint .xor k (if k.signed then -1 else k.max) n
  | .not, .bool b => some (.bool !b)
  | _, _ => none

def partA (P : Program) (t : TypeId) (cs : List Value) (off : Nat) : Option Value :=
  match ti P t with
  | some i => if i.isAgg then some (.agg ((cs.drop off).take i.size).toArray) else cs[off]?
  | none => none

def afill (place : Nat → Option (Nat × Nat)) (cells : List Value) : List (Nat × Value) → Option (List Value)
  | [] => some cells
  | (i, v) :: rest =>
    match place i with
    | none => none
    | some (off, size) =>
      if v.cells.size ≠ size || off + v.cells.size > cells.length || !isData v then none
      else afill place (splice cells off v.cells.toList) rest

def abuild (P : Program) (t : TypeId) (parts : List (Nat × Value)) : Option Value :=
  match ti P t with
  | some ⟨.struct fs, _, _, z⟩ =>
    match afill (fun i => (fs.map fun f => (f.offset, P.cellsOf f.type))[i]?) z.cells.toList parts with
    | some cs => if fs.all (fun f => (P.info? f.type).isSome) then some (.agg cs.toArray) else none
    | none => none
  | some ⟨.array _ e, _, _, z⟩ =>
    match ti P e with
    | some ie => match afill (fun i => some (i * ie.size, ie.size)) z.cells.toList parts with
      | some cs => some (.agg cs.toArray)
      | none => none
    | none => none
  | _ => none

def asIdx (v : Value) : Option Int := match v with | .int _ n => some n | _ => none

/-- The place behind a slice's element, a field, an array's element. -/
def aindexAddr (P : Program) (t : TypeId) (x ix : Value) : Option Value :=
  match ti P t, x, asIdx ix with
  | some ⟨.slice e, _, _, _⟩, .slice (some ⟨b, o, some sz⟩) len _, some i =>
    match ti P e with
    | some ie => if ie.size = sz && decide (0 ≤ i) && decide (i < len) then some (.pointer (some ⟨b, o + i.toNat * sz, none⟩)) else none
    | none => none
  | some ⟨.array n e, _, _, _⟩, .pointer (some ⟨b, o, none⟩), some i =>
    match ti P e with
    | some ie => if decide (0 ≤ i) && decide (i < n) then some (.pointer (some ⟨b, o + i.toNat * ie.size, none⟩)) else none
    | none => none
  | _, _, _ => none

def afieldAddr (P : Program) (t : TypeId) (x : Value) (f : Nat) : Option Value :=
  match ti P t, x with
  | some ⟨.struct fs, _, _, _⟩, .pointer (some ⟨b, o, none⟩) =>
    match fs[f]? with
    | some fd => match ti P fd.type with
      | some i => if i.size = 0 then none else some (.pointer (some ⟨b, o + fd.offset, none⟩))
      | none => none
    | none => none
  | _, _ => none

def afield (P : Program) (t : TypeId) (x : Value) (f : Nat) : Option Value :=
  match ti P t, x with
  | some ⟨.struct fs, _, _, _⟩, .agg cs => match fs[f]? with
    | some fd => partA P fd.type cs.toList fd.offset
    | none => none
  | _, _ => none

def aindex (P : Program) (t : TypeId) (x ix : Value) : Option Value :=
  match ti P t, x, asIdx ix with
  | some ⟨.array n e, _, _, _⟩, .agg cs, some i =>
    match ti P e with
    | some ie => if decide (0 ≤ i) && decide (i < n) then partA P e cs.toList (i.toNat * ie.size) else none
    | none => none
  | some ⟨.string, _, _, _⟩, .string s, some i =>
    if 0 ≤ i then (match s[i.toNat]? with | some b => some (.int .u8 b.toNat) | none => none) else none
  | _, _, _ => none

/-- A bound of a slice expression: as a number from 0 to 'top'. -/
def abound (v : Option Value) (dflt top : Nat) : Option Nat :=
  match v with
  | none => some dflt
  | some x => match asIdx x with
    | some i => if 0 ≤ i ∧ i ≤ top then some i.toNat else none
    | none => none

def aslice (P : Program) (t : TypeId) (x : Value) (lo hi mx : Option Value) : Option Value :=
  match ti P t, x with
  | some ⟨.string, _, _, _⟩, .string s =>
    match mx, abound hi s.size s.size with
    | none, some h => match abound lo 0 h with
      | some l => some (.string (s.extract l h))
      | none => none
    | _, _ => none
  | some ⟨.slice e, _, _, _⟩, .slice a len k =>
    match ti P e, abound hi len len with
    | some ie, some h =>
      match abound lo 0 h with
      | some l =>
        match mx with
        | none =>
          match a with
          | none => some (.slice none 0 0)
          | some ⟨b, o, some sz⟩ => if sz = ie.size then some (.slice (some ⟨b, o + l * sz, some sz⟩) (h - l) (if k = len ∧ h = len then h - l else h - l + 1)) else none
          | _ => none
        | some m =>
          match a, abound (some m) 0 len, hi with
          | some ⟨b, o, some sz⟩, some m, some _ => if sz = ie.size ∧ h ≤ m then some (.slice (some ⟨b, o + l * sz, some sz⟩) (h - l) (if h = m then h - l else h - l + 1)) else none
          | _, _, _ => none
      | none => none
    | _, _ => none
  | _, _ => none

/-- A slice of an array in memory. -/
def asliceArr (P : Program) (h : AHeap) (t : TypeId) (x : Value) (lo hi mx : Option Value) : Option Value :=
  match ti P t, x with
  | some ⟨.array n e, _, _, _⟩, .pointer (some ⟨b, o, none⟩) =>
    match ti P e, abound hi n n, mx, cells? h b with
    | some ie, some hh, none, some cs =>
      match abound lo 0 hh with
      | some l => if o + n * ie.size ≤ cs.length then some (.slice (some ⟨b, o + l * ie.size, some ie.size⟩) (hh - l) (if hh = n then hh - l else hh - l + 1)) else none
      | none => none
    | _, _, _, _ => none
  | _, _ => none

def aconv (P : Program) (src dst : TypeId) (x : Value) : Option Value :=
  match P.underlying src, P.underlying dst, x with
  | some _, some (.int k), .int _ n => some (.int k (k.wrap n))
  | some _, some .string, .int _ n => some (.string (Utf8.encode n))
  | some _, some .string, .string s => some (.string s)
  | _, _, _ => none

def alen (P : Program) (t : TypeId) (x : Value) : Option Value :=
  match P.underlying t, x with
  | some .string, .string s => some (goInt s.size)
  | some (.array n _), _ => some (goInt n)
  | some (.slice _), .slice _ n _ => some (goInt n)
  | some (.map _ _), .map none => some (goInt 0)
  | _, _ => none
def alenMap (P : Program) (h : AHeap) (t : TypeId) (x : Value) : Option Value :=
  match P.underlying t, x with
  | some (.map _ _), .map (some r) => match h[r]? with | some (.amap es) => some (goInt es.length) | _ => none
  | _, _ => none

def amin2 : Value → Value → Option Value
  | .int k x, .int _ y => some (.int k (if y < x then y else x))
  | .string x, .string y => match astr .leq x y with
    | some (.bool b) => some (.string (if b then x else y))
    | _ => none
  | _, _ => none
def amax2 : Value → Value → Option Value
  | .int k x, .int _ y => some (.int k (if y > x then y else x))
  | .string x, .string y => match astr .geq x y with
    | some (.bool b) => some (.string (if b then x else y))
    | _ => none
  | _, _ => none
def afold (f : Value → Value → Option Value) : Value → List Value → Option Value
  | x, [] => some x
  | x, y :: r => match f x y with | some z => afold f z r | none => none

/-- Operations that need nothing but their operands. -/
def apure (P : Program) (ρ : Operand → Value) (op : Op) : Option Value :=
  match op with
  | .move x | .assign x => some (ρ x)
  | .pick c a b => match ρ c with | .bool true => some (ρ a) | .bool false => some (ρ b) | _ => none
  | .build t parts => abuild P t (parts.toList.map fun p => (p.1, ρ p.2))
  | .nilCheck x => match ρ x with | .pointer (some a) => some (.pointer (some a)) | _ => none
  | .binOp o t x y _ => abin P o t (ρ x) (ρ y)
  | .unOp o _ x => aun o (ρ x)
  | .convert s d x => aconv P s d (ρ x)
  | .makeInterface t x => match P.underlying t with
    | some (.interface _) => none
    | some _ => if isData (ρ x) then some (.iface t (ρ x)) else none
    | none => none
  | .makeFunc (.func f) first captured => some (.func (.func f) (first.map ρ) (captured.map ρ))
  | .slice t x lo hi mx => aslice P t (ρ x) (lo.map ρ) (hi.map ρ) (mx.map ρ)
  | .fieldAddr s x f => afieldAddr P s (ρ x) f
  | .field t x f => afield P t (ρ x) f
  | .indexAddr t x ix => aindexAddr P t (ρ x) (ρ ix)
  | .index t x ix => aindex P t (ρ x) (ρ ix)
  | .extract x i => match ρ x with | .tuple vs => vs[i]? | _ => none
  | .call { callee := .builtin .len, args, argTypes } => match args.toList, argTypes.toList with | [x], [t] => alen P t (ρ x) | _, _ => none
  | .call { callee := .builtin .min, args, .. } => match (args.toList.map ρ) with | x :: r => afold amin2 x r | [] => none
  | .call { callee := .builtin .max, args, .. } => match (args.toList.map ρ) with | x :: r => afold amax2 x r | [] => none
  | _ => none

/-! ### Maps: keys are numbers, bools and strings -/
def mapKind (P : Program) (t : TypeId) : Option (TypeDesc × TypeId) :=
  match P.underlying t with
  | some (.map k e) => match P.underlying k with
    | some (.int q) => some (.int q, e)
    | some .string => some (.string, e)
    | some .bool => some (.bool, e)
    | _ => none
  | _ => none
def afind (d : TypeDesc) (k : Value) : List (Value × Value) → Option (Option Value)
  | [] => some none
  | (k', v) :: r => match Instr.sameNow d k k' with
    | some true => some (some v)
    | some false => afind d k r
    | none => none
def aupd (d : TypeDesc) (k v : Value) : List (Value × Value) → Option (List (Value × Value))
  | [] => some [(k, v)]
  | (k', v') :: r => match Instr.sameNow d k k' with
    | some true => some ((k', v) :: r)
    | some false => match aupd d k v r with
      | some r' => some ((k', v') :: r')
      | none => none
    | none => none
def mapEs (h : AHeap) (m : Value) : Option (List (Value × Value)) :=
  match m with
  | .map none => some []
  | .map (some r) => match h[r]? with
    | some (.amap es) => some es
    | _ => none
  | _ => none
def alookup (P : Program) (h : AHeap) (t : TypeId) (m k : Value) (ok : Bool) : Option Value :=
  match mapKind P t, mapEs h m with
  | some (d, e), some es => match afind d k es, ti P e with
    | some (some v), _ => some (if ok then .tuple #[v, .bool true] else v)
    | some none, some i => some (if ok then .tuple #[i.zero, .bool false] else i.zero)
    | _, _ => none
  | _, _ => none

/-- Operations that read the heap. -/
def bytesL : List Value → Option (List UInt8)
  | [] => some []
  | v :: l => match v, bytesL l with
    | .int .u8 n, some r => some (UInt8.ofNat n.toNat :: r)
    | _, _ => none
/-- A slice of bytes as a string. -/
def abytes (P : Program) (h : AHeap) (s d : TypeId) (x : Value) : Option Value :=
  match P.underlying s, P.underlying d, x with
  | some (.slice e), some .string, .slice none _ _ => (match P.underlying e with | some (.int .u8) => some (.string .empty) | _ => none)
  | some (.slice e), some .string, .slice (some ⟨b, o, some sz⟩) n _ => (match P.underlying e with
    | some (.int .u8) => bif Nat.beq sz 1 && Nat.blt 0 n then (match loadN h b o n with
      | some cs => (match bytesL cs with | some l => some (.string ⟨⟨l⟩⟩) | none => none)
      | none => none) else none
    | _ => none)
  | _, _, _ => none

def aread (P : Program) (ρ : Operand → Value) (h : AHeap) (op : Op) : Option Value :=
  match op with
  | .load t a => aload P h t (ρ a)
  | .slice t x lo hi mx => asliceArr P h t (ρ x) (lo.map ρ) (hi.map ρ) (mx.map ρ)
  | .lookup t m k ok => alookup P h t (ρ m) (ρ k) ok
  | .call { callee := .builtin .len, args, argTypes } => match args.toList, argTypes.toList with | [x], [t] => alenMap P h t (ρ x) | _, _ => none
  | .convert s d x => abytes P h s d (ρ x)
  | _ => none

def loadElems (h : AHeap) (sz : Nat) : Value → Option (List Value)
  | .slice none 0 _ => some []
  | .slice (some ⟨b, o, some s⟩) n _ => if s = sz then loadN h b o (n * sz) else none
  | .string s => if sz = 1 then some (s.data.toList.map fun b => .int .u8 b.toNat) else none
  | _ => none
def elemsLen : Value → Option Nat
  | .slice _ n _ => some n
  | .string s => some s.size
  | _ => none

def aappend (P : Program) (h : AHeap) (sT : TypeId) (s x : Value) : Option (Value × AHeap) :=
  match ti P sT, s, elemsLen x with
  | some ⟨.slice e, _, _, _⟩, .slice a len k, some m =>
    match ti P e with
    | some ie =>
      if m = 0 then some (.slice a len k, h)
      else if len + m ≤ lim && ie.bytes ≤ limBytes && 0 < ie.size then
        match loadElems h ie.size x, a with
        | some new, none => some (.slice (some ⟨h.length, 0, some ie.size⟩) (len + m) (len + m + 1), h ++ [.row new true])
        | some new, some ⟨b, o, some sz⟩ =>
          if sz = ie.size then
            match loadN h b o (len * sz), h[b]? with
            | some old, some (.row _ own) =>
              if k = len then some (.slice (some ⟨h.length, 0, some sz⟩) (len + m) (len + m + 1), h ++ [.row (old ++ new) true])
              else if own && new.all isCell then some (.slice (some ⟨h.length, 0, some sz⟩) (len + m) (len + m + 1), h.set b .dead ++ [.row (old ++ new) true])
              else none
            | _, _ => none
          else none
        | _, _ => none
      else none
    | none => none
  | _, _, _ => none

def zerosOf (z : List Value) : Nat → List Value
  | 0 => []
  | n + 1 => z ++ zerosOf z n

def amakeSlice (P : Program) (h : AHeap) (t : TypeId) (l c : Value) : Option (Value × AHeap) :=
  match ti P t, asIdx l, asIdx c with
  | some ⟨.slice e, _, _, _⟩, some l, some c =>
    match ti P e with
    | some ie => if 0 ≤ l ∧ l ≤ c ∧ c ≤ lim ∧ ie.bytes ≤ limBytes ∧ 0 < ie.size then
        some (.slice (some ⟨h.length, 0, some ie.size⟩) l.toNat (if l = c then l.toNat else l.toNat + 1), h ++ [.row (zerosOf ie.zero.cells.toList l.toNat) true])
      else none
    | none => none
  | _, _, _ => none

def abuildSlice (P : Program) (h : AHeap) (t : TypeId) (len : Nat) (parts : List (Nat × Value)) : Option (Value × AHeap) :=
  match ti P t with
  | some ⟨.slice e, _, _, _⟩ =>
    match ti P e with
    | some ie => if len * ie.size ≤ 2 ^ 24 ∧ 0 < ie.size then
        match afill (fun i => some (i * ie.size, ie.size)) (zerosOf ie.zero.cells.toList len) parts with
        | some cs => some (.slice (some ⟨h.length, 0, some ie.size⟩) len len, h ++ [.row cs true])
        | none => none
      else none
    | none => none
  | _ => none

def anext (h : AHeap) (it : Value) : Option (Value × AHeap) :=
  match it with
  | .pointer (some ⟨r, 0, none⟩) =>
    match h[r]? with
    | some (.siter s pos) =>
      if pos < s.size then
        some (.tuple #[.bool true, goInt pos, .int .i32 (Utf8.decode s pos).1], h.set r (.siter s (pos + (Utf8.decode s pos).2)))
      else some (.tuple #[.bool false], h)
    | _ => none
  | _ => none

def amapUpd (P : Program) (h : AHeap) (t : TypeId) (m k x : Value) : Option AHeap :=
  match mapKind P t, m with
  | some (d, _), .map (some r) => match h[r]? with
    | some (.amap es) => match aupd d k x es with
      | some es' => some (h.set r (.amap es'))
      | none => none
    | _ => none
  | _, _ => none
def aclear (P : Program) (h : AHeap) (t : TypeId) (x : Value) : Option AHeap :=
  match P.underlying t, x with
  | some (.slice _), .slice none _ _ => some h
  | some (.slice e), .slice (some ⟨b, o, some sz⟩) n _ => match ti P e with
    | some i => if n = 0 then some h else if sz = i.size ∧ 0 < i.size then storeN h b o (zerosOf i.zero.cells.toList n) else none
    | none => none
  | some (.map _ _), .map none => some h
  | some (.map _ _), .map (some r) => match h[r]? with
    | some (.amap _) => some (h.set r (.amap []))
    | _ => none
  | _, _ => none

/-- Operations that change the heap, other than calls. -/
def aeff (P : Program) (ρ : Operand → Value) (h : AHeap) (op : Op) : Option (Value × AHeap) :=
  match op with
  | .alloc e => match ti P e with
    | some i => if isData i.zero then some (anew h i.zero.cells.toList) else none
    | none => none
  | .box _ x => if isData (ρ x) then some (anew h (ρ x).cells.toList) else none
  | .buildSlice t len parts => abuildSlice P h t len (parts.toList.map fun p => (p.1, ρ p.2))
  | .store t a x => match astore P h t (ρ a) (ρ x) with | some h' => some (undef, h') | none => none
  | .makeSlice t l c => amakeSlice P h t (ρ l) (ρ c)
  | .range t x => match P.underlying t, ρ x with
    | some .string, .string s => some (.pointer (some ⟨h.length, 0, none⟩), h ++ [.siter s 0])
    | _, _ => none
  | .next it true => anext h (ρ it)
  | .convert s d x => match P.underlying s, P.underlying d, ρ x with
    | some _, some (.slice e), .string b => match P.underlying e with
      | some (.int .u8) => if b.size ≤ lim then some (.slice (some ⟨h.length, 0, some 1⟩) b.size (b.size + 1), h ++ [.row (b.data.toList.map fun c => .int .u8 c.toNat) true]) else none
      | _ => none
    | _, _, _ => none
  | .call { callee := .builtin .append, args, argTypes } =>
    match args.toList, argTypes.toList with
    | [s, x], [sT, xT] => match P.underlying xT with
      | some (.int _) => none
      | some _ => aappend P h sT (ρ s) (ρ x)
      | none => none
    | _, _ => none
  | .call { callee := .builtin .clear, args, argTypes } =>
    match args.toList, argTypes.toList with
    | [x], [t] => match aclear P h t (ρ x) with
      | some h' => some (.tuple #[], h')
      | none => none
    | _, _ => none
  | .makeMap _ none => some (.map (some h.length), h ++ [.amap []])
  | .mapUpdate t m k x => match amapUpd P h t (ρ m) (ρ k) (ρ x) with
    | some h' => some (undef, h')
    | none => none
  | .insert t m k x => match amapUpd P h t (ρ m) (ρ k) (ρ x) with
    | some h' => some (undef, h')
    | none => none
  | _ => none

/-! ### Code -/
inductive Tg where
  | fn (f : FuncId)
  | yield (l : Nat)
abbrev ACall := Tg → List Value → AHeap → Option (Value × AHeap)

def callValue (call : ACall) (f : Value) (args : List Value) (h : AHeap) : Option (Value × AHeap) :=
  match f with
  | .func (.func g) first captured => call (.fn g) (first.toList ++ args ++ captured.toList) h
  | .func (.yield l) _ _ => call (.yield l) args h
  | _ => none

/-- One operation. -/
def aop (P : Program) (call : ACall) (ρ : Operand → Value) (h : AHeap) (op : Op) : Option (Value × AHeap) :=
  match op with
  | .call { callee := .value f, args, .. } => callValue call (ρ f) (args.toList.map ρ) h
  | op => match apure P ρ op with
    | some v => some (v, h)
    | none => match aread P ρ h op with
      | some v => some (v, h)
      | none => aeff P ρ h op

def ayielded (ops : Array Oper) (t : List Value) (j : Nat) : Option Bool :=
  match ((ops[j]?).bind (·.dst)).bind (t[·]?) with
  | some (.bool b) => some b
  | _ => none

/-- A region's operations in a given order. -/
def aops (P : Program) (call : ACall) (ops : Array Oper) : List Nat → St → Option St
  | [], s => some s
  | i :: r, s =>
    match ops[i]? with
    | none => none
    | some o =>
      if Region.wanted o (ayielded ops s.t) then
        match aop P call (aeval s.t) s.h o.op with
        | some (v, h) => aops P call ops r ⟨aput s.t o.dst v, h⟩
        | none => none
      else aops P call ops r ⟨aput s.t o.dst undef, s.h⟩

/-! ### Regions that draw their order -/
/-- 0: looks at its operands alone; 1: reads; 2: changes the heap, or calls. -/
def kindOf (P : Program) (op : Op) : Nat :=
  match op with
  | .convert s d _ => match P.underlying s, P.underlying d with | some (.slice _), _ => 2 | _, some (.slice _) => 2 | _, _ => 0
  | .slice t _ _ _ _ => match P.underlying t with | some (.array _ _) => 2 | _ => 0
  | .move _ | .assign _ | .pick .. | .build .. | .nilCheck _ | .binOp .. | .unOp .. | .makeInterface .. | .makeFunc .. | .fieldAddr .. | .field .. | .indexAddr .. | .index .. | .extract .. => 0
  | .call { callee := .builtin .min, .. } | .call { callee := .builtin .max, .. } | .call { callee := .builtin .len, .. } => 0
  | .load .. => 1
  | _ => 2

/-- For each operation, as bits, those that must come before it. -/
def befs : List Oper → List Nat → List Nat
  | [], acc => acc
  | o :: r, acc => befs r (acc ++ [o.after.toList.foldl (fun s e => if Region.binds .any e then s ||| 2 ^ e.on ||| acc.getD e.on 0 else s) 0])

def tmpOf : Operand → Option Tmp
  | .tmp t => some t
  | _ => none

/-- The slots that an operation reads, tests or writes. -/
def looksAt (ops : List Oper) (o : Oper) : List Tmp :=
  o.dst.toList ++ o.op.operands.toList.filterMap tmpOf ++ (match o.guard with | some (j, _) => ((ops[j]?).bind (·.dst)).toList | none => [])

def apartOf (b : List Nat) (i j : Nat) : Bool := if j < i then (b.getD i 0).testBit j else (b.getD j 0).testBit i

/-- The static part: what may come in either order does not touch what the other looks at; effects follow each other. -/
def drawOK (P : Program) (ops : Array Oper) : Bool :=
  let l := ops.toList
  let b := befs l []
  (List.range l.length).all fun i =>
    match l[i]? with
    | none => false
    | some o =>
      (o.after.toList.all fun e => !Region.binds .any e || decide (e.on < i)) &&
      (List.range l.length).all fun j =>
        match l[j]? with
        | none => false
        | some q =>
          j == i ||
          ((match q.dst with | some d => !(looksAt l o).contains d || apartOf b i j | none => true) &&
           (!(kindOf P o.op == 2 && kindOf P q.op == 2) || apartOf b i j))

/-- The effects that may come before or behind i. -/
def floats (P : Program) (ops : Array Oper) (i : Nat) : List Nat :=
  let l := ops.toList
  let b := befs l []
  (List.range l.length).filter fun j => (match l[j]? with | some q => kindOf P q.op == 2 | none => false) && j != i && !apartOf b i j

mutual
/-- Two values are one, seen in a finite look. -/
def same : Value → Value → Bool
  | .bool a, .bool b => a == b
  | .int j a, .int k b => j == k && a == b
  | .float j a, .float k b => j == k && a == b
  | .complex j a c, .complex k b d => j == k && a == b && c == d
  | .string a, .string b => a.data.toList == b.data.toList
  | .pointer a, .pointer b => a == b
  | .slice a m k, .slice b n l => a == b && m == n && k == l
  | .map a, .map b => a == b
  | .chan a, .chan b => a == b
  | .nilIface, .nilIface => true
  | .nilFunc, .nilFunc => true
  | .func f z x, .func g z' y => f == g && sameA z z' && sameA x y
  | .iface t a, .iface u b => t == u && same a b
  | .agg a, .agg b => sameA a b
  | .tuple a, .tuple b => sameA a b
  | _, _ => false
termination_by structural a => a
def sameA : Array Value → Array Value → Bool
  | ⟨a⟩, ⟨b⟩ => sameL a b
termination_by structural a => a
def sameL : List Value → List Value → Bool
  | [], [] => true
  | a :: l, b :: m => same a b && sameL l m
  | _, _ => false
termination_by structural a => a
end

/-- In the text's order, but what is read is read again behind (or had been before) each effect that it may pass. 'hs': the heaps before the effects that are done, with their numbers; 'rs': what was read. -/
def adraw (P : Program) (call : ACall) (ops : Array Oper) : List Nat → St → List (Nat × AHeap) → List (Nat × TypeId × Value × Value) → Option St
  | [], s, _, _ => some s
  | i :: r, s, hs, rs =>
    match ops[i]? with
    | none => none
    | some o =>
      if Region.wanted o (ayielded ops s.t) then
        match kindOf P o.op with
        | 0 => match apure P (aeval s.t) o.op with
          | some v => adraw P call ops r ⟨aput s.t o.dst v, s.h⟩ hs rs
          | none => none
        | 1 => match o.op with
          | .load t a => match aload P s.h t (aeval s.t a) with
            | some v =>
              if (hs.all fun p => !(floats P ops i).contains p.1 || (match aload P p.2 t (aeval s.t a) with | some v' => same v v' | none => false)) then
                adraw P call ops r ⟨aput s.t o.dst v, s.h⟩ hs (if (floats P ops i).isEmpty then rs else (i, t, aeval s.t a, v) :: rs)
              else none
            | none => none
          | _ => none
        | _ => match aop P call (aeval s.t) s.h o.op with
          | some (v, h) =>
            if (rs.all fun p => !(floats P ops p.1).contains i || (match aload P h p.2.1 p.2.2.1 with | some v' => same p.2.2.2 v' | none => false)) then
              adraw P call ops r ⟨aput s.t o.dst v, h⟩ ((i, s.h) :: hs) rs
            else none
          | none => none
      else adraw P call ops r ⟨aput s.t o.dst undef, s.h⟩ hs rs

def aregion (P : Program) (call : ACall) (ops : Array Oper) (draw : Bool) (s : St) : Option St :=
  if draw then (if drawOK P ops then adraw P call ops (List.range ops.size) s [] [] else none)
  else aops P call ops (List.range ops.size) s

def aloop (body : St → Option (AExit × St)) : Nat → St → Option (AExit × St)
  | 0, _ => none
  | n + 1, s => match body s with
    | some (.normal, s') => aloop body n s'
    | r => r

def jumpOf : AExit → Option Code
  | .normal => none
  | .ret => some .ret
  | .exit id => some (.exit id)
def exitOf : Option Code → Option AExit
  | none => some .normal
  | some .ret => some .ret
  | some (.exit id) => some (.exit id)
  | _ => none

def inRound (h : AHeap) : Option Nat → Bool
  | none => true
  | some l => match h[l]? with
    | some (.loop ..) => true
    | _ => false

/-- Code. ro: the loop whose round this is, if it is one's. -/
def aex (P : Program) (call : ACall) (n : Nat) (ro : Option Nat) : Code → St → Option (AExit × St)
  | .skip, s => some (.normal, s)
  | .label _, s => some (.normal, s)
  | .region _ ops draw, s => match aregion P call ops draw s with
    | some s' => some (.normal, s')
    | none => none
  | .seq a b, s => match aex P call n ro a s with
    | some (.normal, s') => aex P call n ro b s'
    | r => r
  | .cond c x y, s => match aeval s.t c with
    | .bool true => aex P call n ro x s
    | .bool false => aex P call n ro y s
    | _ => none
  | .block id body, s => match aex P call n ro body s with
    | some (.exit i, s') => if i = id then some (.normal, s') else some (.exit i, s')
    | r => r
  | .loop body, s => aloop (aex P call n ro body) n s
  | .exit id, s => some (.exit id, s)
  | .scope body, s => aex P call n ro body s
  | .ret, s => some (.ret, s)
  | .rangeFunc f params assign body, s =>
    match aeval s.t f with
    | .func (.func g) first captured =>
      if inRound s.h ro then
        match call (.fn g) (first.toList ++ [.func (.yield s.h.length) #[] #[]] ++ captured.toList) (s.h ++ [.loop .ready none s.t params.toList assign body]) with
        | some (_, h) => match h[s.h.length]? with
          | some (.loop st pending ts ps as bd) =>
            if st = .busy then none else
            match exitOf pending with
            | some e => some (e, ⟨s.t, h.set s.h.length (.loop .exhausted pending ts ps as bd)⟩)
            | none => none
          | _ => none
        | none => none
      else none
    | _ => none
  | _, _ => none

def aresult (P : Program) (t : List Value) (h : AHeap) : ResultVar → Option Value
  | .tmp i => some (t.getD i undef)
  | .cell a ty => aload P h ty (t.getD a undef)
def aresultsL (P : Program) (t : List Value) (h : AHeap) : List ResultVar → Option (List Value)
  | [] => some []
  | r :: rs => match aresult P t h r, aresultsL P t h rs with
    | some v, some vs => some (v :: vs)
    | _, _ => none
def aresults (P : Program) (rs : List ResultVar) (t : List Value) (h : AHeap) : Option Value :=
  match aresultsL P t h rs with
  | some [v] => some v
  | some vs => some (.tuple vs.toArray)
  | none => none

/-- What is told of functions by contracts of their own. -/
abbrev Ext := FuncId → Option (List Value → AHeap → Option (Value × AHeap))

def acall (P : Program) (X : Ext) : Nat → ACall
  | 0 => fun _ _ _ => none
  | n + 1 => fun g args h =>
    match g with
    | .fn f =>
      match X f with
      | some c => c args h
      | none =>
        match P.funcs[f]? with
        | some fn => match fn.body with
          | some c => match aex P (acall P X n) n none c ⟨args ++ List.replicate (fn.ntmps - args.length) undef, h⟩ with
            | some (.normal, s) => (match aresults P fn.results.toList s.t s.h with | some v => some (v, s.h) | none => none)
            | some (.ret, s) => (match aresults P fn.results.toList s.t s.h with | some v => some (v, s.h) | none => none)
            | _ => none
          | none => none
        | none => none
    | .yield l =>
      match h[l]? with
      | some (.loop .ready _ ts ps assign body) =>
        if args.length = ps.length then
          match aex P (acall P X n) n (some l) assign ⟨(ps.zip args).foldl (fun t p => t.set p.1 p.2) ts, h⟩ with
          | some (.normal, s) => match s.h[l]? with
            | some (.loop .ready pd ts' ps' as' bd') =>
              match aex P (acall P X n) n (some l) body ⟨s.t, s.h.set l (.loop .busy pd ts' ps' as' bd')⟩ with
              | some (e, s2) => match s2.h[l]? with
                | some (.loop _ _ ts2 ps2 as2 bd2) => some (.bool (jumpOf e).isNone, s2.h.set l (.loop (if (jumpOf e).isNone then .ready else .done) (jumpOf e) ts2 ps2 as2 bd2))
                | _ => none
              | none => none
            | _ => none
          | _ => none
        else none
      | _ => none

end Go.AM

/-
  THE ABSTRACT EXECUTOR: how its values and heaps stand to the world's.
-/
namespace Go.AM

/-- Where an abstract block lies: block, where it begins there, where what it may claim ends. -/
structure Pl where
  blk : Nat
  sh : Nat
  en : Nat
abbrev Rho := Nat → Option Pl

inductive VRel (ρ : Rho) : Value → Value → Prop
  | bool (b) : VRel ρ (.bool b) (.bool b)
  | int (k n) : VRel ρ (.int k n) (.int k n)
  | float (k n) : VRel ρ (.float k n) (.float k n)
  | complex (k m n) : VRel ρ (.complex k m n) (.complex k m n)
  | string (s) : VRel ρ (.string s) (.string s)
  | nilptr : VRel ρ (.pointer none) (.pointer none)
  | ptr {b o p} (h : ρ b = some p) : VRel ρ (.pointer (some ⟨b, o, none⟩)) (.pointer (some ⟨p.blk, p.sh + o, none⟩))
  | nilslice : VRel ρ (.slice none 0 0) (.slice none 0 0)
  | slice {b o p sz len k cap} (h : ρ b = some p) (hl : len ≤ cap) (hc : p.sh + o + cap * sz ≤ p.en) (hx : k = len → cap = len) :
      VRel ρ (.slice (some ⟨b, o, some sz⟩) len k) (.slice (some ⟨p.blk, p.sh + o, none⟩) len cap)
  | slice0 (b o sz a k) : VRel ρ (.slice (some ⟨b, o, some sz⟩) 0 k) (.slice (some a) 0 0)
  | nilmap : VRel ρ (.map none) (.map none)
  | map {b p} (h : ρ b = some p) : VRel ρ (.map (some b)) (.map (some p.blk))
  | nilFunc : VRel ρ .nilFunc .nilFunc
  | nilIface : VRel ρ .nilIface .nilIface
  | func (f) {x y x' y' : Array Value} (hx : x.size = x'.size) (hy : y.size = y'.size)
      (h1 : ∀ i (h : i < x.size) (h' : i < x'.size), VRel ρ x[i] x'[i]) (h2 : ∀ i (h : i < y.size) (h' : i < y'.size), VRel ρ y[i] y'[i]) :
      VRel ρ (.func (.func f) x y) (.func (.func f) x' y')
  | yield {l p} (h : ρ l = some p) : VRel ρ (.func (.yield l) #[] #[]) (.func (.yield p.blk) #[] #[])
  | iface (t) {v v'} (h : VRel ρ v v') : VRel ρ (.iface t v) (.iface t v')
  | agg {x x' : Array Value} (hx : x.size = x'.size) (h : ∀ i (h : i < x.size) (h' : i < x'.size), VRel ρ x[i] x'[i]) : VRel ρ (.agg x) (.agg x')
  | tuple {x x' : Array Value} (hx : x.size = x'.size) (h : ∀ i (h : i < x.size) (h' : i < x'.size), VRel ρ x[i] x'[i]) : VRel ρ (.tuple x) (.tuple x')

def RhoLe (ρ ρ' : Rho) : Prop := ∀ b p, ρ b = some p → ρ' b = some p
theorem RhoLe.refl (ρ : Rho) : RhoLe ρ ρ := fun _ _ h => h
theorem RhoLe.trans {a b c : Rho} (h : RhoLe a b) (k : RhoLe b c) : RhoLe a c := fun i p hp => k i p (h i p hp)

theorem VRel.mono {ρ ρ' : Rho} (hρ : RhoLe ρ ρ') {v v' : Value} (h : VRel ρ v v') : VRel ρ' v v' := by
  induction h with
  | bool b => exact .bool b
  | int k n => exact .int k n
  | float k n => exact .float k n
  | complex k m n => exact .complex k m n
  | string s => exact .string s
  | nilptr => exact .nilptr
  | ptr h => exact .ptr (hρ _ _ h)
  | nilslice => exact .nilslice
  | slice h hl hc hx => exact .slice (hρ _ _ h) hl hc hx
  | slice0 b o sz a k => exact .slice0 b o sz a k
  | nilmap => exact .nilmap
  | map h => exact .map (hρ _ _ h)
  | nilFunc => exact .nilFunc
  | nilIface => exact .nilIface
  | func f hx hy _ _ ih1 ih2 => exact .func f hx hy ih1 ih2
  | yield h => exact .yield (hρ _ _ h)
  | iface t _ ih => exact .iface t ih
  | agg hx _ ih => exact .agg hx ih
  | tuple hx _ ih => exact .tuple hx ih

theorem VRel.undef (ρ : Rho) : VRel ρ Go.undef Go.undef := .tuple rfl (fun i h => by simp at h)

/-! ### Lists of values -/
inductive LRel (ρ : Rho) : List Value → List Value → Prop
  | nil : LRel ρ [] []
  | cons {v v' l l'} (h : VRel ρ v v') (t : LRel ρ l l') : LRel ρ (v :: l) (v' :: l')

theorem LRel.length {ρ : Rho} {l l' : List Value} (h : LRel ρ l l') : l.length = l'.length := by
  induction h with
  | nil => rfl
  | cons _ _ ih => simp [ih]
theorem LRel.mono {ρ ρ' : Rho} (hρ : RhoLe ρ ρ') {l l' : List Value} (h : LRel ρ l l') : LRel ρ' l l' := by
  induction h with
  | nil => exact .nil
  | cons h _ ih => exact .cons (h.mono hρ) ih
theorem LRel.get? {ρ : Rho} {l l' : List Value} (h : LRel ρ l l') : ∀ {i : Nat} {v : Value}, l[i]? = some v → ∃ v', l'[i]? = some v' ∧ VRel ρ v v' := by
  induction h with
  | nil => intro i v h; simp at h
  | cons h _ ih =>
    intro i v hv
    cases i with
    | zero => simp at hv; subst hv; exact ⟨_, rfl, h⟩
    | succ i => simp at hv; obtain ⟨v', h1, h2⟩ := ih hv; exact ⟨v', by simpa using h1, h2⟩
theorem LRel.none? {ρ : Rho} {l l' : List Value} (h : LRel ρ l l') {i : Nat} (hn : l[i]? = none) : l'[i]? = none := by
  rw [List.getElem?_eq_none_iff] at *; rw [← h.length]; exact hn
theorem LRel.of_get {ρ : Rho} : ∀ {l l' : List Value}, l.length = l'.length → (∀ (i : Nat) (h : i < l.length) (h' : i < l'.length), VRel ρ l[i] l'[i]) → LRel ρ l l'
  | [], [], _, _ => .nil
  | v :: l, v' :: l', hl, h => .cons (h 0 (by simp) (by simp)) (LRel.of_get (by simpa using hl) (fun i hi hi' => h (i + 1) (by simpa using hi) (by simpa using hi')))
theorem LRel.getD {ρ : Rho} {l l' : List Value} (h : LRel ρ l l') (i : Nat) : VRel ρ (l.getD i undef) (l'.getD i undef) := by
  rw [List.getD_eq_getElem?_getD, List.getD_eq_getElem?_getD]
  cases hv : l[i]? with
  | none => rw [h.none? hv]; exact .undef ρ
  | some v => obtain ⟨v', h1, h2⟩ := h.get? hv; rw [h1]; exact h2
theorem LRel.append {ρ : Rho} {a a' b b' : List Value} (h : LRel ρ a a') (k : LRel ρ b b') : LRel ρ (a ++ b) (a' ++ b') := by
  induction h with
  | nil => exact k
  | cons h _ ih => exact .cons h ih
theorem LRel.take {ρ : Rho} {a a' : List Value} (h : LRel ρ a a') : ∀ (n : Nat), LRel ρ (a.take n) (a'.take n) := by
  induction h with
  | nil => intro n; simp; exact .nil
  | cons h _ ih => intro n; cases n with
    | zero => exact .nil
    | succ n => exact .cons h (ih n)
theorem LRel.drop {ρ : Rho} {a a' : List Value} (h : LRel ρ a a') : ∀ (n : Nat), LRel ρ (a.drop n) (a'.drop n) := by
  induction h with
  | nil => intro n; simp; exact .nil
  | cons h t ih => intro n; cases n with
    | zero => exact .cons h t
    | succ n => exact ih n
theorem LRel.set {ρ : Rho} {a a' : List Value} (h : LRel ρ a a') {v v' : Value} (hv : VRel ρ v v') : ∀ (n : Nat), LRel ρ (a.set n v) (a'.set n v') := by
  induction h with
  | nil => intro n; exact .nil
  | cons h t ih => intro n; cases n with
    | zero => exact .cons hv t
    | succ n => exact .cons h (ih n)
theorem LRel.splice {ρ : Rho} {a a' v v' : List Value} (h : LRel ρ a a') (hv : LRel ρ v v') (o : Nat) : LRel ρ (splice a o v) (splice a' o v') := by
  unfold AM.splice
  rw [← hv.length]
  exact ((h.take o).append hv).append (h.drop _)
theorem LRel.replicate {ρ : Rho} {v v' : Value} (h : VRel ρ v v') (n : Nat) : LRel ρ (List.replicate n v) (List.replicate n v') := by
  induction n with
  | zero => exact .nil
  | succ n ih => exact .cons h ih
theorem LRel.toArray {ρ : Rho} {x x' : Array Value} (hx : x.size = x'.size) (h : ∀ i (h : i < x.size) (h' : i < x'.size), VRel ρ x[i] x'[i]) : LRel ρ x.toList x'.toList :=
  .of_get (by simpa using hx) (fun i hi hi' => by simpa using h i (by simpa using hi) (by simpa using hi'))
theorem LRel.agg {ρ : Rho} {l l' : List Value} (h : LRel ρ l l') : VRel ρ (.agg l.toArray) (.agg l'.toArray) := by
  refine .agg (by simpa using h.length) (fun i hi hi' => ?_)
  have := h.get? (i := i) (v := l[i]'(by simpa using hi)) (by simp)
  obtain ⟨v', h1, h2⟩ := this
  rw [List.getElem?_eq_getElem (by simpa using hi')] at h1
  simp only [Option.some.injEq] at h1
  simpa [h1] using h2
theorem LRel.tuple {ρ : Rho} {l l' : List Value} (h : LRel ρ l l') : VRel ρ (.tuple l.toArray) (.tuple l'.toArray) := by
  have := h.agg
  cases this with
  | agg hx h => exact .tuple hx h
theorem VRel.aggList {ρ : Rho} {x x' : Array Value} (h : VRel ρ (.agg x) (.agg x')) : LRel ρ x.toList x'.toList := by
  cases h with
  | agg hx h => exact .toArray hx h
theorem VRel.tupleList {ρ : Rho} {x x' : Array Value} (h : VRel ρ (.tuple x) (.tuple x')) : LRel ρ x.toList x'.toList := by
  cases h with
  | tuple hx h => exact .toArray hx h
theorem VRel.cells {ρ : Rho} {v v' : Value} (h : VRel ρ v v') : LRel ρ v.cells.toList v'.cells.toList := by
  cases h <;> first
    | exact .cons (by constructor <;> assumption) .nil
    | (rename_i hx h; exact .toArray hx h)
    | skip
theorem VRel.isCell {ρ : Rho} {v v' : Value} (h : VRel ρ v v') : isCell v' = isCell v := by cases h <;> rfl
theorem VRel.isData {ρ : Rho} {v v' : Value} (h : VRel ρ v v') : isData v' = isData v := by cases h <;> rfl
theorem VRel.cellsSize {ρ : Rho} {v v' : Value} (h : VRel ρ v v') : v'.cells.size = v.cells.size := by
  have := h.cells.length; simpa using this.symm

theorem constsOK_get : ∀ {l : List Value}, constsOK l = true → ∀ v ∈ l, constOK v = true
  | [], _, v, hv => by simp at hv
  | a :: l, h, v, hv => by
    simp only [constsOK, Bool.and_eq_true] at h
    rcases List.mem_cons.1 hv with rfl | hv
    · exact h.1
    · exact constsOK_get h.2 v hv

theorem constOK_refl (ρ : Rho) : ∀ {v : Value}, constOK v = true → VRel ρ v v := by
  intro v
  induction hn : SizeOf.sizeOf v using Nat.strongRecOn generalizing v with
  | _ n ih =>
    intro h
    subst hn
    have arr : ∀ (x : Array Value), SizeOf.sizeOf x < SizeOf.sizeOf v → constsOK x.toList = true → ∀ i (h : i < x.size) (_ : i < x.size), VRel ρ x[i] x[i] := by
      intro x hx hc i hi _
      refine ih (SizeOf.sizeOf x[i]) ?_ rfl (constsOK_get hc _ (by simp))
      have := Array.sizeOf_getElem x i hi
      omega
    cases v with
    | bool b => exact .bool b
    | int k n => exact .int k n
    | float k n => exact .float k n
    | complex k m n => exact .complex k m n
    | string s => exact .string s
    | nilFunc => exact .nilFunc
    | nilIface => exact .nilIface
    | pointer a => cases a with
      | none => exact .nilptr
      | some a => simp [constOK] at h
    | slice a l c =>
      cases a with
      | some a => simp [constOK] at h
      | none =>
        cases l with
        | succ l => simp [constOK] at h
        | zero => cases c with
          | succ c => simp [constOK] at h
          | zero => exact .nilslice
    | map a => cases a with
      | none => exact .nilmap
      | some a => simp [constOK] at h
    | chan a => simp [constOK] at h
    | func f x y =>
      cases f with
      | func f =>
        simp only [constOK, Bool.and_eq_true] at h
        exact .func f rfl rfl (arr x (by simp; omega) h.1) (arr y (by simp; omega) h.2)
      | _ => simp [constOK] at h
    | iface t v =>
      simp only [constOK] at h
      exact .iface t (ih (SizeOf.sizeOf v) (by simp; omega) rfl h)
    | agg cs =>
      simp only [constOK] at h
      exact .agg rfl (arr cs (by simp) h)
    | tuple cs =>
      simp only [constOK] at h
      exact .tuple rfl (arr cs (by simp) h)

theorem constsOK_refl (ρ : Rho) {l : List Value} (h : constsOK l = true) : LRel ρ l l := by
  induction l with
  | nil => exact .nil
  | cons v l ih => simp only [constsOK, Bool.and_eq_true] at h; exact .cons (constOK_refl ρ h.1) (ih h.2)

/-! ### Code all of whose constants and variables are such -/
def opndOK (G : Nat) : Operand → Bool
  | .const v => constOK v
  | .global g => g < G
  | _ => true
def operOK (G : Nat) (o : Oper) : Bool := o.op.operands.toList.all (opndOK G)
def codeOK (G : Nat) : Code → Bool
  | .region _ ops _ => ops.toList.all (operOK G)
  | .seq a b => codeOK G a && codeOK G b
  | .cond c a b => opndOK G c && codeOK G a && codeOK G b
  | .block _ a | .loop a | .scope a => codeOK G a
  | .rangeFunc f _ a b => opndOK G f && codeOK G a && codeOK G b
  | _ => true

/-! ### Heaps -/
def AObj.own : AObj → Bool
  | .row _ o => o
  | .dead => false
  | _ => true
def AObj.live : AObj → Bool
  | .dead => false
  | _ => true

/-- A loop's record in the world. -/
structure LoopIs (ρ : Rho) (G : Nat) (L : Loop) (st : LoopState) (pd : Option Code) (ts : List Value) (ps : List Tmp) (as bd : Code) : Prop where
  state : L.state = st
  pending : L.pending = pd
  params : L.params.toList = ps
  assign : L.assign = as
  body : L.body = bd
  tmps : LRel ρ ts L.tmps.toList
  okA : codeOK G as = true
  okB : codeOK G bd = true

inductive ERel (ρ : Rho) : List (Value × Value) → List MapEntry → Prop
  | nil : ERel ρ [] []
  | cons {k v : Value} {e : MapEntry} {es es'} (hk : VRel ρ k e.key) (hv : VRel ρ v e.val) (t : ERel ρ es es') : ERel ρ ((k, v) :: es) (e :: es')

theorem ERel.mono {ρ ρ' : Rho} (hρ : RhoLe ρ ρ') {es : List (Value × Value)} {l : List MapEntry} (h : ERel ρ es l) : ERel ρ' es l := by
  induction h with
  | nil => exact .nil
  | cons hk hv _ ih => exact .cons (hk.mono hρ) (hv.mono hρ) ih

def ObjRel (G : Nat) (ρ : Rho) (w : World) (p : Pl) : AObj → Prop
  | .row cs own => ∃ (c : Array Value) (t : TypeId) (fz : Nat × Nat), w.heap[p.blk]? = some (.cells c t fz) ∧ p.sh + cs.length ≤ c.size ∧
      (∀ (i : Nat) (v : Value), cs[i]? = some v → ∃ v', c[p.sh + i]? = some v' ∧ VRel ρ v v') ∧
      p.sh + cs.length ≤ p.en ∧ (own = true → p.en ≤ c.size ∧ ∀ o, p.sh ≤ o → o < p.en → ¬(fz.1 ≤ o ∧ o < fz.2))
  | .dead => True
  | .siter s pos => w.heap[p.blk]? = some (.stringIter s pos) ∧ p.sh = 0
  | .amap es => ∃ (es' : Array MapEntry) (clock : Nat), w.heap[p.blk]? = some (.map es' clock) ∧ ERel ρ es es'.toList
  | .loop st pd ts ps as bd => ∃ L : Loop, w.heap[p.blk]? = some (.loop L) ∧ LoopIs ρ G L st pd ts ps as bd

/-- The abstract heap h stands for the world w. G: how many variables of packages the program has. -/
structure HRel (G : Nat) (ρ : Rho) (h : AHeap) (w : World) : Prop where
  dom : ∀ (b : Nat) (o : AObj), h[b]? = some o → o.live = true → ∃ p, ρ b = some p
  obj : ∀ (b : Nat) (o : AObj) (p : Pl), h[b]? = some o → ρ b = some p → ObjRel G ρ w p o
  lt : ∀ (b : Nat) (p : Pl), ρ b = some p → p.blk < w.heap.size
  bd : ∀ (b : Nat) (p : Pl), ρ b = some p → b < h.length
  sep : ∀ (b b' : Nat) (o o' : AObj) (p p' : Pl), b ≠ b' → h[b]? = some o → h[b']? = some o' → ρ b = some p → ρ b' = some p' → o.own = true → o'.live = true → p.blk ≠ p'.blk
  glob : ∀ g, g < G → ∃ en, ρ g = some ⟨g, 0, en⟩
  gown : ∀ (b : Nat) (o : AObj) (p : Pl), h[b]? = some o → ρ b = some p → o.own = true → G ≤ p.blk
  gsz : G ≤ w.heap.size

/-- What a run leaves as it was. -/
structure Fr (ρ : Rho) (h : AHeap) (w : World) (ρ' : Rho) (h' : AHeap) (w' : World) : Prop where
  ext : RhoLe ρ ρ'
  size : w.heap.size ≤ w'.heap.size
  tape : w'.tape = w.tape
  os : w'.os = w.os
  output : w'.output = w.output
  own : ∀ (b : Nat) (o : AObj) (p : Pl), h'[b]? = some o → o.own = true → ρ' b = some p → p.blk < w.heap.size → ∃ b0 o0 p0, h[b0]? = some o0 ∧ o0.own = true ∧ ρ b0 = some p0 ∧ p0.blk = p.blk
  keep : ∀ c, c < w.heap.size → (∀ (b : Nat) (o : AObj) (p : Pl), h[b]? = some o → o.own = true → ρ b = some p → p.blk ≠ c) → w'.heap[c]? = w.heap[c]?

theorem Fr.refl (ρ : Rho) (h : AHeap) (w : World) : Fr ρ h w ρ h w :=
  ⟨.refl ρ, Nat.le_refl _, rfl, rfl, rfl, fun b o p hb ho hp _ => ⟨b, o, p, hb, ho, hp, rfl⟩, fun _ _ _ => rfl⟩
theorem Fr.trans {ρ1 ρ2 ρ3 : Rho} {h1 h2 h3 : AHeap} {w1 w2 w3 : World} (a : Fr ρ1 h1 w1 ρ2 h2 w2) (b : Fr ρ2 h2 w2 ρ3 h3 w3) : Fr ρ1 h1 w1 ρ3 h3 w3 :=
  ⟨a.ext.trans b.ext, Nat.le_trans a.size b.size, b.tape.trans a.tape, b.os.trans a.os, b.output.trans a.output,
   fun i o p hi ho hp hl => by
     obtain ⟨b0, o0, p0, x1, x2, x3, x4⟩ := b.own i o p hi ho hp (Nat.lt_of_lt_of_le hl a.size)
     obtain ⟨b1, o1, p1, y1, y2, y3, y4⟩ := a.own b0 o0 p0 x1 x2 x3 (by omega)
     exact ⟨b1, o1, p1, y1, y2, y3, y4.trans x4⟩,
   fun c hc hn => by
     refine (b.keep c (Nat.lt_of_lt_of_le hc a.size) ?_).trans (a.keep c hc hn)
     intro i o p hi ho hp e
     obtain ⟨b0, o0, p0, x1, x2, x3, x4⟩ := a.own i o p hi ho hp (by omega)
     exact hn b0 o0 p0 x1 x2 x3 (by omega)⟩
theorem Fr.drew (ρ : Rho) (h : AHeap) (w : World) : Fr ρ h w ρ h w.drew :=
  ⟨.refl ρ, Nat.le_refl _, rfl, rfl, rfl, fun b o p hb ho hp _ => ⟨b, o, p, hb, ho, hp, rfl⟩, fun _ _ _ => rfl⟩

theorem ObjRel.mono {G : Nat} {ρ ρ' : Rho} {w w' : World} {p : Pl} {o : AObj} (hρ : RhoLe ρ ρ') (hw : o.live = true → w'.heap[p.blk]? = w.heap[p.blk]?) (h : ObjRel G ρ w p o) : ObjRel G ρ' w' p o := by
  cases o with
  | dead => trivial
  | row cs own =>
    obtain ⟨c, t, fz, h1, h2, h3, h4, h5⟩ := h
    exact ⟨c, t, fz, (hw rfl).trans h1, h2, fun i v hv => by obtain ⟨v', a, b⟩ := h3 i v hv; exact ⟨v', a, b.mono hρ⟩, h4, h5⟩
  | siter s pos => exact ⟨(hw rfl).trans h.1, h.2⟩
  | amap es =>
    obtain ⟨es', clock, h1, h2⟩ := h
    exact ⟨es', clock, (hw rfl).trans h1, h2.mono hρ⟩
  | loop st pd ts ps as bd =>
    obtain ⟨L, h1, h2⟩ := h
    exact ⟨L, (hw rfl).trans h1, { h2 with tmps := h2.tmps.mono hρ }⟩

theorem HRel.drew {G : Nat} {ρ : Rho} {h : AHeap} {w : World} (H : HRel G ρ h w) : HRel G ρ h w.drew :=
  ⟨H.dom, fun b o p hb hp => (H.obj b o p hb hp).mono (.refl ρ) (fun _ => rfl), H.lt, H.bd, H.sep, H.glob, H.gown, H.gsz⟩

end Go.AM

/-
  THE ABSTRACT EXECUTOR: operations that look at nothing but their operands are what the model computes.
-/
set_option linter.unusedSimpArgs false
set_option linter.unusedVariables false
namespace Go.AM
variable {P : Program} {ρ : Rho}

theorem ti_all {t : TypeId} {x : TI} (h : ti P t = some x) : (P.underlying t = some x.d ∧ ∃ i, P.info? t = some i ∧ i.size = x.size ∧ i.bytes = x.bytes ∧ i.zero = some x.zero) ∧ constOK x.zero = true ∧ x.zero.cells.size = x.size := by
  unfold ti at h
  split at h
  · rename_i d i hu hi
    split at h
    · rename_i z hz
      split at h
      · rename_i hc
        simp only [Option.some.injEq] at h
        subst h
        simp only [Bool.and_eq_true, beq_iff_eq] at hc
        exact ⟨⟨hu, i, hi, rfl, rfl, hz⟩, hc.1, hc.2⟩
      · simp at h
    · simp at h
  · simp at h
theorem ti_spec {t : TypeId} {x : TI} (h : ti P t = some x) : P.underlying t = some x.d ∧ ∃ i, P.info? t = some i ∧ i.size = x.size ∧ i.bytes = x.bytes ∧ i.zero = some x.zero := (ti_all h).1
theorem ti_zero {t : TypeId} {x : TI} (h : ti P t = some x) : constOK x.zero = true := (ti_all h).2.1
theorem ti_size {t : TypeId} {x : TI} (h : ti P t = some x) : x.zero.cells.size = x.size := (ti_all h).2.2

theorem run_und {t : TypeId} {d : TypeDesc} (h : P.underlying t = some d) (w : World) : (Go.underlying t).run P w = .ok d w := by
  simp [Go.underlying, h]
theorem run_tu {t : TypeId} {x : TI} (h : ti P t = some x) (w : World) : (Go.underlying t).run P w = .ok x.d w := run_und (ti_spec h).1 w
theorem run_size {t : TypeId} {x : TI} (h : ti P t = some x) (w : World) : (Go.sizeOf t).run P w = .ok x.size w := by
  obtain ⟨_, i, hi, hs, _, _⟩ := ti_spec h
  simp [Go.sizeOf, typeInfo, hi, hs]
theorem run_zero {t : TypeId} {x : TI} (h : ti P t = some x) (w : World) : (zeroValue t).run P w = .ok x.zero w := by
  obtain ⟨_, i, hi, _, _, hz⟩ := ti_spec h
  simp [zeroValue, typeInfo, hi, hz]
theorem run_bytes {t : TypeId} {x : TI} (h : ti P t = some x) (w : World) : ∃ i, (typeInfo t).run P w = .ok i w ∧ i.bytes = x.bytes ∧ i.size = x.size := by
  obtain ⟨_, i, hi, hs, hb, _⟩ := ti_spec h
  exact ⟨i, by simp [typeInfo, hi], hb, hs⟩
theorem run_isAgg {t : TypeId} {x : TI} (h : ti P t = some x) (w : World) : (Go.isAgg t).run P w = .ok x.isAgg w := by
  simp only [Go.isAgg, Sem.run_bind, run_tu h, Result.andThen_ok, TI.isAgg]
  cases x.d <;> rfl

/-- A Sem whose run is the same in every world. -/
def Still (P : Program) {α : Type} (s : Sem α) (a : α) : Prop := ∀ w, s.run P w = .ok a w

theorem acmp_sound {op : BinOp} {a b : Int} {v : Value} (h : acmp op a b = some v) : Still P (Op.intCmp op a b) v ∧ VRel ρ v v := by
  unfold acmp at h
  unfold Op.intCmp
  split at h <;> simp only [Option.some.injEq, reduceCtorEq] at h <;> subst h <;> exact ⟨fun w => rfl, .bool _⟩

theorem aint_sound {op : BinOp} {k : IntKind} {a b : Int} {v : Value} {t : TypeId} (hl : op ≠ .shl) (hr : op ≠ .shr) (h : aint op k a b = some v) :
    Still P (Go.binOp op t (.int k a) (.int k b)) v ∧ VRel ρ v v := by
  unfold aint at h
  cases op <;> simp only [] at h <;>
    first
    | (obtain ⟨h1, h2⟩ := acmp_sound (P := P) (ρ := ρ) h
       refine ⟨fun w => ?_, h2⟩
       simp only [Go.binOp, ne_eq, not_true_eq_false, if_false]
       exact h1 w)
    | (simp only [Option.some.injEq] at h; subst h
       exact ⟨fun w => by simp [Go.binOp, Op.intArith, Op.intBits], .int _ _⟩)
    | (split at h
       · simp at h
       · rename_i hb
         simp only [Option.some.injEq] at h; subst h
         exact ⟨fun w => by simp [Go.binOp, Op.intDiv, hb], .int _ _⟩)
    | (exact absurd rfl hl)
    | (exact absurd rfl hr)

theorem astr_sound {op : BinOp} {a b : ByteArray} {v : Value} {t : TypeId} (h : astr op a b = some v) :
    Still P (Go.binOp op t (.string a) (.string b)) v ∧ VRel ρ v v := by
  unfold astr at h
  cases op <;> simp only [] at h <;>
    first
    | (simp at h; done)
    | (simp only [Option.some.injEq] at h; subst h
       exact ⟨fun w => by simp [Go.binOp, Op.stringOp, ByteArray.toList_eq], .bool _⟩)
    | (split at h
       · rename_i hs
         simp only [Option.some.injEq] at h; subst h
         refine ⟨fun w => ?_, .string _⟩
         have hm : IntKind.i64.max = 9223372036854775807 := rfl
         have hn : ¬ (((a.size + b.size : Nat) : Int) > IntKind.i64.max) := by rw [hm]; omega
         simp only [Go.binOp, Op.stringOp, if_neg hn, Sem.run_pure]
       · simp at h)

theorem eqGuard_other {op : BinOp} {t : TypeId} {x y : Operand} {a b : Value} (h : ∀ c d, ¬(a = .agg c ∧ b = .agg d)) (h' : ¬(a = .nilIface ∧ b = .nilIface)) :
    Still P (eqGuard op t x y a b) () := by
  intro w
  unfold eqGuard
  cases op <;> simp <;> (cases a <;> cases b <;> simp_all)


/-! ### '==' of structs and arrays, cell by cell -/
def packA (P : Program) (t : TypeId) (xs : List Value) : Value :=
  match ti P t with
  | some i => if i.isAgg then .agg xs.toArray else xs.getD 0 undef
  | none => undef

theorem part_run {t : TypeId} {i : TI} (hi : ti P t = some i) (xs : Array Value) (off s : Nat) (hs : i.size = s) (ha : i.isAgg = false → s = 1) (hl : off + s ≤ xs.size) (w : World) :
    (part t xs off).run P w = .ok (packA P t ((xs.toList.drop off).take s)) w := by
  simp only [part, Sem.run_bind, run_isAgg hi, Result.andThen_ok, packA, hi]
  cases hagg : i.isAgg with
  | true =>
    simp only [if_true, Sem.run_bind, run_size hi, Result.andThen_ok, Sem.run_pure]
    congr 2
    apply Array.toList_inj.1
    rw [Array.toList_extract, hs]
    simp [List.extract, List.take_drop]
  | false =>
    have h1 := ha hagg
    subst h1
    rw [if_neg (by simp), if_neg (by simp)]
    have : xs[off]? = some xs[off] := by simp
    rw [this]
    simp only [Sem.run_pure]
    congr 1
    rw [List.getD_eq_getElem?_getD, List.getElem?_take, if_pos (by omega), List.getElem?_drop, Nat.add_zero, Array.getElem?_toList, this]
    rfl

theorem forIn_all {α : Type} {w : World} {body : α → Option Bool × Unit → Sem (ForInStep (Option Bool × Unit))} {r : α → Bool} : ∀ {l : List α},
    (∀ x ∈ l, (body x (none, ())).run P w = .ok (if r x then .yield (none, ()) else .done (some false, ())) w) →
    (forIn l (none, ()) body).run P w = .ok (if l.all r then (none, ()) else (some false, ())) w := by
  intro l
  induction l with
  | nil => intro _; rfl
  | cons x l ih =>
    intro h
    rw [List.forIn_cons, Sem.run_bind, h x (by simp)]
    simp only [Result.andThen_ok, List.all_cons]
    by_cases hr : r x = true
    · simp only [hr, if_true, Bool.true_and]; exact ih (fun y hy => h y (by simp [hy]))
    · simp [hr]

theorem acellsEq_len : ∀ {ks : List CK} {a c : List Value} {x : Bool}, acellsEq ks a c = some x → a.length = ks.length ∧ c.length = ks.length := by
  intro ks
  induction ks with
  | nil => intro a c x h; cases a <;> cases c <;> simp_all [acellsEq]
  | cons k ks ih =>
    intro a c x h
    cases a <;> cases c <;> simp only [acellsEq, reduceCtorEq] at h
    split at h
    · rename_i p q hp hq; simp [ih hq]
    · simp at h
theorem acellsEq_split : ∀ {ks : List CK} {a c : List Value} {x : Bool} (n : Nat), acellsEq ks a c = some x →
    ∃ p q, acellsEq (ks.take n) (a.take n) (c.take n) = some p ∧ acellsEq (ks.drop n) (a.drop n) (c.drop n) = some q ∧ x = (p && q) := by
  intro ks
  induction ks with
  | nil =>
    intro a c x n h
    cases a <;> cases c <;> simp only [acellsEq, reduceCtorEq] at h
    simp only [Option.some.injEq] at h; subst h; exact ⟨true, true, by simp [acellsEq], by simp [acellsEq], rfl⟩
  | cons k ks ih =>
    intro a c x n h
    cases a with
    | nil => simp [acellsEq] at h
    | cons v a => cases c with
      | nil => simp [acellsEq] at h
      | cons u c =>
        cases n with
        | zero => exact ⟨true, x, by simp [acellsEq], by simpa using h, by simp⟩
        | succ n =>
          simp only [acellsEq] at h
          split at h
          · rename_i p q hp hq
            simp only [Option.some.injEq] at h; subst h
            obtain ⟨p', q', h1, h2, h3⟩ := ih n hq
            exact ⟨p && p', q', by simp [acellsEq, hp, h1], by simpa using h2, by rw [h3, Bool.and_assoc]⟩
          · simp at h

theorem flatFs_eq {sz : TypeId → Option (List CK)} {xs ys : List Value} : ∀ {fs : List Field} {acc : Nat} {r : List CK} {b : Bool}, flatFs sz fs acc = some r → acellsEq r (xs.drop acc) (ys.drop acc) = some b →
    b = (fs.all fun f => (acellsEq ((sz f.type).getD []) ((xs.drop f.offset).take ((sz f.type).getD []).length) ((ys.drop f.offset).take ((sz f.type).getD []).length)).getD false) ∧
    ∀ f ∈ fs, f.name ≠ "_" ∧ ∃ k p, sz f.type = some k ∧ acellsEq k ((xs.drop f.offset).take k.length) ((ys.drop f.offset).take k.length) = some p := by
  intro fs
  induction fs with
  | nil =>
    intro acc r b h hb
    simp only [flatFs, Option.some.injEq] at h; subst h
    have hl := acellsEq_len hb
    have h1 : xs.drop acc = [] := List.eq_nil_of_length_eq_zero hl.1
    have h2 : ys.drop acc = [] := List.eq_nil_of_length_eq_zero hl.2
    rw [h1, h2] at hb
    simp only [acellsEq, Option.some.injEq] at hb
    subst hb; exact ⟨rfl, by simp⟩
  | cons f fs ih =>
    intro acc r b h hb
    simp only [flatFs] at h
    split at h
    · simp at h
    · rename_i hn
      split at h
      · simp at h
      · rename_i ho
        split at h
        · rename_i k hk
          split at h
          · rename_i r' hr'
            simp only [Option.some.injEq] at h; subst h
            obtain ⟨p, q, h1, h2, h3⟩ := acellsEq_split k.length hb
            rw [List.take_left] at h1
            rw [List.drop_left, List.drop_drop, List.drop_drop] at h2
            obtain ⟨h4, h5⟩ := ih hr' h2
            have ho' : f.offset = acc := by omega
            refine ⟨?_, fun g hg => ?_⟩
            · rw [List.all_cons, ← h4, hk, ho']
              simp only [Option.getD_some, h1, h3]
            · rcases List.mem_cons.1 hg with rfl | hg
              · exact ⟨hn, k, p, hk, by rw [ho']; exact h1⟩
              · exact h5 g hg
          · simp at h
        · simp at h

theorem range_eq {xs ys : List Value} {k : List CK} : ∀ (m j : Nat) {b : Bool}, acellsEq (List.replicate m k).flatten (xs.drop (j * k.length)) (ys.drop (j * k.length)) = some b →
    (b = (List.range' j m).all fun i => (acellsEq k ((xs.drop (i * k.length)).take k.length) ((ys.drop (i * k.length)).take k.length)).getD false) ∧
    ∀ i ∈ List.range' j m, ∃ p, acellsEq k ((xs.drop (i * k.length)).take k.length) ((ys.drop (i * k.length)).take k.length) = some p := by
  intro m
  induction m with
  | zero =>
    intro j b hb
    have hl := acellsEq_len hb
    have h1 : xs.drop (j * k.length) = [] := List.eq_nil_of_length_eq_zero (by simpa using hl.1)
    have h2 : ys.drop (j * k.length) = [] := List.eq_nil_of_length_eq_zero (by simpa using hl.2)
    rw [h1, h2] at hb
    simp only [List.replicate_zero, List.flatten_nil, acellsEq, Option.some.injEq] at hb
    subst hb; exact ⟨rfl, by simp⟩
  | succ m ih =>
    intro j b hb
    rw [List.replicate_succ, List.flatten_cons] at hb
    obtain ⟨p, q, h1, h2, h3⟩ := acellsEq_split k.length hb
    rw [List.take_left] at h1
    rw [List.drop_left, List.drop_drop, List.drop_drop, show j * k.length + k.length = (j + 1) * k.length from (Nat.succ_mul j k.length).symm] at h2
    obtain ⟨h4, h5⟩ := ih (j + 1) h2
    refine ⟨?_, fun i hi => ?_⟩
    · rw [List.range'_succ, List.all_cons, ← h4]
      simp only [Option.getD_some, h1, h3]
    · rw [List.range'_succ] at hi
      rcases List.mem_cons.1 hi with rfl | hi
      · exact ⟨p, h1⟩
      · exact h5 i hi

theorem take_fit {xs : List Value} {o n : Nat} (h : ((xs.drop o).take n).length = n) : n = 0 ∨ o + n ≤ xs.length := by
  simp at h; omega

theorem part_run' {t : TypeId} {i : TI} (hi : ti P t = some i) (xs : List Value) (off s : Nat) (hs : i.size = s) (ha : i.isAgg = false → s = 1) (hl : ((xs.drop off).take s).length = s) (w : World) :
    (part t xs.toArray off).run P w = .ok (packA P t ((xs.drop off).take s)) w := by
  rcases take_fit hl with h0 | h
  · subst h0
    simp only [part, Sem.run_bind, run_isAgg hi, Result.andThen_ok, packA, hi]
    cases hagg : i.isAgg with
    | true =>
      simp only [if_true, Sem.run_bind, run_size hi, Result.andThen_ok, Sem.run_pure, hs]
      congr 2
      apply Array.toList_inj.1
      simp
    | false => have := ha hagg; omega
  · exact part_run hi xs.toArray off s hs ha (by simpa using h) w

theorem equal_flat : ∀ (n : Nat) (t : TypeId) (s : List CK), flatT P n t = some s → (∃ i, ti P t = some i ∧ i.size = s.length ∧ (i.isAgg = false → s.length = 1)) ∧ ∀ (xs ys : List Value), ∀ b, acellsEq s xs ys = some b → ∀ d, n ≤ d → ∀ w,
    (Op.equalIn d t (packA P t xs) (packA P t ys)).run P w = .ok b w := by
  intro n
  induction n with
  | zero => intro t s h; simp [flatT] at h
  | succ n ih =>
    intro t s h
    have scalar : ∀ {i : TI} {c : CK}, ti P t = some i → i.isAgg = false → s = [c] → (∀ x y b, acellEq c x y = some b → ∀ d w, (Op.equalIn (d + 1) t x y).run P w = .ok b w) → i.size = 1 →
        (∃ i, ti P t = some i ∧ i.size = s.length ∧ (i.isAgg = false → s.length = 1)) ∧ ∀ (xs ys : List Value), ∀ b, acellsEq s xs ys = some b → ∀ d, n + 1 ≤ d → ∀ w, (Op.equalIn d t (packA P t xs) (packA P t ys)).run P w = .ok b w := by
      intro i c hi ha hs1 hq hsz
      subst hs1
      refine ⟨⟨i, hi, hsz, fun _ => rfl⟩, fun xs ys b hb d hd w => ?_⟩
      have hl := acellsEq_len hb
      match xs, ys, hl with
      | [x], [y], _ =>
        simp only [acellsEq] at hb
        split at hb
        · rename_i p q hp hq2
          simp only [Option.some.injEq] at hb hq2; subst hb hq2
          obtain ⟨d, rfl⟩ : ∃ k, d = k + 1 := ⟨d - 1, by omega⟩
          simp only [packA, hi, ha, Bool.false_eq_true, if_false, List.getD_cons_zero, Bool.and_true]
          exact hq x y p hp d w
        · simp at hb
    simp only [flatT] at h
    split at h
    · rename_i i hi
      have hu := (ti_spec hi).1
      split at h
      · rename_i hd
        split at h
        · rename_i hsz
          simp only [Option.some.injEq] at h; subst h
          rw [hd] at hu
          refine scalar hi (by simp [TI.isAgg, hd]) rfl (fun x y b hb d w => ?_) hsz
          unfold acellEq at hb
          split at hb <;> (try (simp_all; done))
          simp only [Option.some.injEq] at hb; subst hb
          rw [Op.equalIn]; simp [run_und hu]
        · simp at h
      · rename_i q hd
        split at h
        · rename_i hsz
          simp only [Option.some.injEq] at h; subst h
          rw [hd] at hu
          refine scalar hi (by simp [TI.isAgg, hd]) rfl (fun x y b hb d w => ?_) hsz
          unfold acellEq at hb
          split at hb <;> (try (simp_all; done))
          split at hb <;> (try (simp_all; done))
          rename_i hk
          simp only [Option.some.injEq] at hb; subst hb
          rw [Op.equalIn]; simp [run_und hu, hk]
        · simp at h
      · rename_i hd
        split at h
        · rename_i hsz
          simp only [Option.some.injEq] at h; subst h
          rw [hd] at hu
          refine scalar hi (by simp [TI.isAgg, hd]) rfl (fun x y b hb d w => ?_) hsz
          unfold acellEq at hb
          split at hb <;> (try (simp_all; done))
          simp only [Option.some.injEq] at hb; subst hb
          rw [Op.equalIn]; simp [run_und hu]
        · simp at h
      · -- a struct
        rename_i fs hd
        rw [hd] at hu
        split at h
        · simp at h
        · rename_i hst
          split at h
          · rename_i s' hfs
            split at h
            · rename_i hsz
              simp only [Option.some.injEq] at h; subst h
              have hagg : i.isAgg = true := by simp [TI.isAgg, hd]
              refine ⟨⟨i, hi, hsz, by simp [hagg]⟩, fun xs ys b hb d hdd w => ?_⟩
              obtain ⟨d, rfl⟩ : ∃ k, d = k + 1 := ⟨d - 1, by omega⟩
              obtain ⟨hbe, hall⟩ := flatFs_eq (xs := xs) (ys := ys) hfs (by simpa using hb)
              simp only [packA, hi, hagg, if_true]
              rw [Op.equalIn]
              simp only [Sem.run_bind, run_und hu, Result.andThen_ok]
              simp only [run_program, Result.andThen_ok, hst, Bool.false_eq_true, if_false, Sem.run_bind, Sem.run_pure]
              rw [← Array.forIn_toList]
              rw [forIn_all (r := fun f => (acellsEq ((flatT P n f.type).getD []) ((xs.drop f.offset).take ((flatT P n f.type).getD []).length) ((ys.drop f.offset).take ((flatT P n f.type).getD []).length)).getD false)]
              · rw [← hbe]; cases b <;> rfl
              · intro f hf
                obtain ⟨hn, k, p, hk, hp⟩ := hall f hf
                obtain ⟨⟨j, hj, hjs, hja⟩, heq⟩ := ih f.type k hk
                have hpl := acellsEq_len hp
                have h1 := part_run' hj xs f.offset k.length hjs hja hpl.1 w
                have h2 := part_run' hj ys f.offset k.length hjs hja hpl.2 w
                have h3 := heq _ _ p hp d (by omega) w
                simp only [ne_eq, hn, not_false_eq_true, if_true, Sem.run_bind, h1, h2, h3, Result.andThen_ok, hk, Option.getD_some, hp]
                cases p <;> simp
            · simp at h
          · simp at h
      · -- an array
        rename_i m e hd
        rw [hd] at hu
        split at h
        · rename_i k hk
          split at h
          · rename_i hsz
            simp only [Option.some.injEq] at h; subst h
            have hagg : i.isAgg = true := by simp [TI.isAgg, hd]
            refine ⟨⟨i, hi, by rw [hsz]; simp [List.length_flatten, List.map_replicate], by simp [hagg]⟩, fun xs ys b hb d hdd w => ?_⟩
            obtain ⟨d, rfl⟩ : ∃ k, d = k + 1 := ⟨d - 1, by omega⟩
            obtain ⟨⟨j, hj, hjs, hja⟩, heq⟩ := ih e k hk
            obtain ⟨hbe, hall⟩ := range_eq (xs := xs) (ys := ys) (k := k) m 0 (by simpa using hb)
            simp only [packA, hi, hagg, if_true]
            rw [Op.equalIn]
            simp only [Sem.run_bind, run_und hu, Result.andThen_ok, run_size hj, hjs]
            rw [Std.Legacy.Range.forIn_eq_forIn_range']
            rw [forIn_all (r := fun i => (acellsEq k ((xs.drop (i * k.length)).take k.length) ((ys.drop (i * k.length)).take k.length)).getD false)]
            · simp only [Std.Legacy.Range.size, Nat.sub_zero, Nat.add_sub_cancel, Nat.div_one]
              rw [← hbe]; cases b <;> rfl
            · intro q hq
              obtain ⟨p, hp⟩ := hall q (by simpa [Std.Legacy.Range.size] using hq)
              have hpl := acellsEq_len hp
              have h1 := part_run' hj xs (q * k.length) k.length hjs hja hpl.1 w
              have h2 := part_run' hj ys (q * k.length) k.length hjs hja hpl.2 w
              have h3 := heq _ _ p hp d (by omega) w
              simp only [Sem.run_bind, h1, h2, h3, Result.andThen_ok, hp, Option.getD_some]
              cases p <;> simp
          · simp at h
        · simp at h
      · simp at h
    · simp at h

theorem acellEq_rel {c : CK} {x y x' y' : Value} {b : Bool} (hx : VRel ρ x x') (hy : VRel ρ y y') (h : acellEq c x y = some b) : acellEq c x' y' = some b := by
  unfold acellEq at h
  split at h <;> (try (simp at h; done)) <;> cases hx <;> cases hy <;> exact h
theorem acellsEq_rel {ks : List CK} {xs ys xs' ys' : List Value} (hx : LRel ρ xs xs') (hy : LRel ρ ys ys') {b : Bool} (h : acellsEq ks xs ys = some b) : acellsEq ks xs' ys' = some b := by
  induction ks generalizing xs ys xs' ys' b with
  | nil => cases hx <;> cases hy <;> simp_all [acellsEq]
  | cons c ks ih =>
    cases hx <;> cases hy <;> simp only [acellsEq, reduceCtorEq] at h ⊢
    rename_i h1 h2 _ _ _ _ h3 h4
    split at h
    · rename_i p q hp hq
      rw [acellEq_rel h1 h3 hp, ih h2 h4 hq]
      exact h
    · simp at h

theorem aeq_sound {t : TypeId} {x y x' y' : Value} {b : Bool} (hx : VRel ρ x x') (hy : VRel ρ y y') (h : aeq P t x y = some b) :
    Still P (Op.equal t x' y') b ∧ ∀ o ox oy, Still P (eqGuard o t ox oy x' y') () := by
  by_cases hagg : ∃ xs ys, x = .agg xs ∧ y = .agg ys
  · obtain ⟨xs, ys, rfl, rfl⟩ := hagg
    simp only [aeq] at h
    split at h
    · rename_i ks i0 hks hi0
      unfold flat at hks
      split at hks
      · simp at hks
      · rename_i hg
        by_cases hagg0 : i0.isAgg = true
        · rw [if_pos hagg0] at h
          have hxr := acellsEq_rel hx.cells hy.cells h
          cases hx with
          | agg hx1 hx2 =>
          cases hy with
          | agg hy1 hy2 =>
          rename_i x' y'
          obtain ⟨⟨i, hi, his, hia⟩, heq⟩ := equal_flat 8 t ks hks
          have hagg : i.isAgg = true := by rw [hi] at hi0; simp only [Option.some.injEq] at hi0; rw [hi0]; exact hagg0
          have h1 := fun w => heq _ _ b hxr Op.maxDepth (by decide) w
          simp only [packA, hi, hagg, if_true] at h1
          refine ⟨fun w => by simpa [Op.equal, Value.cells] using h1 w, fun o ox oy w => ?_⟩
          unfold eqGuard
          cases o <;> simp [hg]
        · rw [if_neg hagg0] at h; simp at h
    · simp at h
  suffices Still P (Op.equal t x' y') b ∧ (∀ c d, ¬(x' = .agg c ∧ y' = .agg d)) ∧ ¬(x' = .nilIface ∧ y' = .nilIface) from ⟨this.1, fun o ox oy => eqGuard_other this.2.1 this.2.2⟩
  unfold aeq at h
  split at h <;> (try (simp at hagg; done)) <;> (try (simp at h; done)) <;> (split at h <;> (try (simp at h; done))) <;> rename_i hu <;> simp only [Option.some.injEq] at h <;> subst h <;> cases hx <;> cases hy <;>
    (refine ⟨fun w => ?_, by simp, by simp⟩) <;> (unfold Op.equal; rw [show Op.maxDepth = 9999 + 1 from rfl, Op.equalIn]; simp [run_und hu])

theorem abin_sound {o : BinOp} {t : TypeId} {x y x' y' v : Value} {ox oy : Operand} (hx : VRel ρ x x') (hy : VRel ρ y y') (h : abin P o t x y = some v) :
    ∃ v', Still P (do eqGuard o t ox oy x' y'; Go.binOp o t x' y' : Sem Value) v' ∧ VRel ρ v v' := by
  unfold abin at h
  split at h
  · -- two numbers
    rename_i k a k' b
    cases hx; cases hy
    have hg : Still P (eqGuard o t ox oy (.int k a) (.int k' b)) () := eqGuard_other (by simp) (by simp)
    split at h
    · split at h
      · simp at h
      · rename_i hb
        simp only [Option.some.injEq] at h; subst h
        exact ⟨_, fun w => by simp [hg w, Go.binOp, Op.shift, hb], .int _ _⟩
    · split at h
      · simp at h
      · rename_i hb
        simp only [Option.some.injEq] at h; subst h
        exact ⟨_, fun w => by simp [hg w, Go.binOp, Op.shift, hb], .int _ _⟩
    · rename_i hl hr
      split at h
      · rename_i hk
        subst hk
        obtain ⟨h1, h2⟩ := aint_sound (P := P) (ρ := ρ) (t := t) (fun e => hl e) (fun e => hr e) h
        exact ⟨v, fun w => by simp [hg w, h1 w], h2⟩
      · simp at h
  · -- two strings
    rename_i a b
    cases hx; cases hy
    have hg : Still P (eqGuard o t ox oy (.string a) (.string b)) () := eqGuard_other (by simp) (by simp)
    obtain ⟨h1, h2⟩ := astr_sound (P := P) (ρ := ρ) (t := t) h
    exact ⟨v, fun w => by simp [hg w, h1 w], h2⟩
  · rename_i hn1 hn2
    split at h
    · split at h
      · rename_i b hb
        simp only [Option.some.injEq] at h; subst h
        obtain ⟨h1, h2⟩ := aeq_sound hx hy hb
        refine ⟨.bool b, fun w => ?_, .bool _⟩
        have hg : Still P (eqGuard .eql t ox oy x' y') () := h2 _ _ _
        have hbin : (Go.binOp .eql t x' y').run P w = .ok (.bool b) w := by
          unfold aeq at hb
          split at hb <;> (try (simp at hb; done)) <;> cases hx <;> cases hy <;> simp [Go.binOp, h1 w]
        simp [hg w, hbin]
      · simp at h
    · split at h
      · rename_i b hb
        simp only [Option.some.injEq] at h; subst h
        obtain ⟨h1, h2⟩ := aeq_sound hx hy hb
        refine ⟨.bool (!b), fun w => ?_, .bool _⟩
        have hg : Still P (eqGuard .neq t ox oy x' y') () := h2 _ _ _
        have hbin : (Go.binOp .neq t x' y').run P w = .ok (.bool (!b)) w := by
          unfold aeq at hb
          split at hb <;> (try (simp at hb; done)) <;> cases hx <;> cases hy <;> simp [Go.binOp, h1 w]
        simp [hg w, hbin]
      · simp at h
    · simp at h
end Go.AM

/-
  THE ABSTRACT EXECUTOR: operations that look at nothing but their operands are what the model computes (2).
-/
set_option linter.unusedSimpArgs false
set_option linter.unusedVariables false
namespace Go.AM
variable {P : Program} {ρ : Rho}

theorem aun_sound {o : UnOp} {x x' v : Value} (hx : VRel ρ x x') (h : aun o x = some v) : Still P (Op.unary o x') v ∧ VRel ρ v v := by
  unfold aun at h
  split at h
  · cases hx; simp only [Option.some.injEq] at h; subst h; exact ⟨fun w => by simp [Op.unary, Op.intArith], .int _ _⟩
  · rename_i k n
    cases hx
    simp only [aint, Option.some.injEq] at h; subst h
    exact ⟨fun w => by simp [Op.unary, Op.intBits], .int _ _⟩
  · cases hx; simp only [Option.some.injEq] at h; subst h; exact ⟨fun w => by simp [Op.unary], .bool _⟩
  · simp at h

theorem aconv_sound {s d : TypeId} {x x' v : Value} (hx : VRel ρ x x') (h : aconv P s d x = some v) : Still P (Go.convert s d x') v ∧ VRel ρ v v := by
  unfold aconv at h
  split at h <;> (try (simp at h; done)) <;> rename_i h1 h2 <;> cases hx <;> simp only [Option.some.injEq] at h <;> subst h <;>
    (refine ⟨fun w => ?_, by constructor⟩) <;> rename_i d1 _ <;>
    (simp only [Go.convert, Sem.run_bind, run_und h1, run_und h2, Result.andThen_ok]; cases d1 <;> first | rfl | simp [Conv.intToInt, Conv.intToString])

theorem LRel.extract {ρ : Rho} {x x' : Array Value} (h : LRel ρ x.toList x'.toList) (a n : Nat) : LRel ρ ((x.toList.drop a).take n) (x'.extract a (a + n)).toList := by
  have := (h.drop a).take n
  rw [Array.toList_extract]
  simpa [List.extract, List.take_drop] using this

theorem partA_sound {t : TypeId} {cs cs' : Array Value} {off : Nat} {v : Value} (hc : LRel ρ cs.toList cs'.toList) (h : partA P t cs.toList off = some v) :
    ∃ v', Still P (part t cs' off) v' ∧ VRel ρ v v' := by
  unfold partA at h
  split at h
  · rename_i i hi
    split at h
    · rename_i ha
      simp only [Option.some.injEq] at h; subst h
      refine ⟨.agg (cs'.extract off (off + i.size)), fun w => by simp [part, run_isAgg hi, ha, run_size hi], ?_⟩
      have := (hc.extract off i.size).agg
      simpa only [Array.toArray_toList] using this
    · rename_i ha
      obtain ⟨v', h1, h2⟩ := hc.get? h
      have h1' : cs'[off]? = some v' := by simpa using h1
      exact ⟨v', fun w => by simp [part, run_isAgg hi, ha, h1'], h2⟩
  · simp at h

/-! ### build -/
theorem splice_get {cs c : List Value} {o : Nat} (h : o + c.length ≤ cs.length) (i : Nat) : (splice cs o c)[i]? = if i < o then cs[i]? else if i < o + c.length then c[i - o]? else cs[i]? := by
  unfold splice
  simp only [List.append_assoc, List.getElem?_append, List.length_take]
  have hm : min o cs.length = o := by omega
  rw [hm]
  split
  · rename_i hi; rw [List.getElem?_take, if_pos hi]
  · rename_i hi
    by_cases h2 : i - o < c.length
    · rw [if_pos h2, if_pos (by omega)]
    · rw [if_neg h2, if_neg (by omega), List.getElem?_drop]
      congr 1
      omega
theorem splice_length {cs c : List Value} {o : Nat} (h : o + c.length ≤ cs.length) : (splice cs o c).length = cs.length := by
  unfold splice; simp; omega

theorem setfold_eq (c : List Value) : ∀ (o : Nat) (cs : List Value), o + c.length ≤ cs.length →
    ((c.toArray.zipIdx.foldl (fun cs (p : Value × Nat) => cs.setIfInBounds (o + p.2) p.1) cs.toArray)).toList = splice cs o c := by
  intro o cs h
  have key : ∀ (c : List Value) (k : Nat) (cs : List Value), o + k + c.length ≤ cs.length →
      ((c.zipIdx k).foldl (fun (cs : Array Value) (p : Value × Nat) => cs.setIfInBounds (o + p.2) p.1) cs.toArray) = (splice cs (o + k) c).toArray := by
    intro c
    induction c with
    | nil => intro k cs h; simp [splice]
    | cons v c ih =>
      intro k cs h
      simp only [List.length_cons] at h
      simp only [List.zipIdx_cons, List.foldl_cons, List.setIfInBounds_toArray]
      rw [ih (k + 1) (cs.set (o + k) v) (by simp; omega)]
      congr 1
      apply List.ext_getElem?
      intro i
      rw [splice_get (by simp; omega), splice_get (by simp; omega)]
      simp only [List.length_cons]
      by_cases h1 : i < o + k
      · rw [if_pos (by omega), if_pos h1, List.getElem?_set_ne (by omega)]
      · by_cases h2 : i = o + k
        · subst h2
          rw [if_pos (by omega), if_neg (by omega), if_pos (by omega), List.getElem?_set_self (by omega)]
          simp
        · rw [if_neg (by omega), if_neg h1]
          by_cases h3 : i < o + (k + 1) + c.length
          · rw [if_pos h3, if_pos (by omega)]
            have : i - (o + k) = (i - (o + (k + 1))) + 1 := by omega
            rw [this, List.getElem?_cons_succ]
          · rw [if_neg h3, if_neg (by omega), List.getElem?_set_ne (by omega)]
  have := key c 0 cs (by simpa using h)
  rw [← Array.foldl_toList]
  simp only [Array.toList_zipIdx]
  rw [this]
  simp

theorem afill_sound {place : Nat → Option (Nat × Nat)} : ∀ {parts parts' : List (Nat × Value)} {cs cs' r : List Value},
    parts.map (·.1) = parts'.map (·.1) → LRel ρ (parts.map (·.2)) (parts'.map (·.2)) → LRel ρ cs cs' → afill place cs parts = some r →
    ∃ r', Instr.fill place cs'.toArray parts' = some r'.toArray ∧ LRel ρ r r' := by
  intro parts
  induction parts with
  | nil =>
    intro parts' cs cs' r hm hv hc h
    cases parts' with
    | cons _ _ => simp at hm
    | nil => simp only [afill, Option.some.injEq] at h; subst h; exact ⟨cs', rfl, hc⟩
  | cons p parts ih =>
    intro parts' cs cs' r hm hv hc h
    cases parts' with
    | nil => simp at hm
    | cons p' parts' =>
      obtain ⟨i, v⟩ := p
      obtain ⟨i', v'⟩ := p'
      simp only [List.map_cons, List.cons.injEq] at hm hv
      obtain ⟨rfl, hm⟩ := hm
      cases hv with
      | cons hv hvs =>
      simp only [afill] at h
      split at h
      · simp at h
      · rename_i off size hp
        split at h
        · simp at h
        · rename_i hcond
          simp only [ne_eq, gt_iff_lt, Bool.or_eq_true, decide_eq_true_eq, Bool.not_eq_true', not_or, Decidable.not_not, Nat.not_lt, Bool.not_eq_false] at hcond
          obtain ⟨⟨hs, hle⟩, _⟩ := hcond
          obtain ⟨r', h1, h2⟩ := ih hm hvs (hc.splice hv.cells off) h
          refine ⟨r', ?_, h2⟩
          simp only [Instr.fill, hp]
          have hsz := hv.cellsSize
          have hl := hc.length
          rw [if_neg (by simp only [List.size_toArray]; simp; omega)]
          rw [← h1]
          congr 1
          apply Array.toList_inj.1
          have := setfold_eq v'.cells.toList off cs' (by simp; omega)
          simpa using this
      

theorem map_places {fs : Array Field} : (∀ f ∈ fs.toList, (P.info? f.type).isSome) → ∀ w, (fs.mapM fun f => (do pure (f.offset, ← Go.sizeOf f.type) : Sem (Nat × Nat))).run P w = .ok (fs.map fun f => (f.offset, P.cellsOf f.type)) w := by
  intro h w
  rw [Array.mapM_eq_mapM_toList]
  have key : ∀ (l : List Field), (∀ f ∈ l, (P.info? f.type).isSome) → (l.mapM fun f => (do pure (f.offset, ← Go.sizeOf f.type) : Sem (Nat × Nat))).run P w = .ok (l.map fun f => (f.offset, P.cellsOf f.type)) w := by
    intro l
    induction l with
    | nil => intro _; rfl
    | cons f l ih =>
      intro hl
      have hf := hl f (by simp)
      obtain ⟨i, hi⟩ := Option.isSome_iff_exists.1 hf
      have h1 : (Go.sizeOf f.type).run P w = .ok i.size w := by simp [Go.sizeOf, typeInfo, hi]
      simp only [List.mapM_cons, Sem.run_bind, h1, Result.andThen_ok, Sem.run_pure, ih (fun f hf => hl f (by simp [hf]))]
      simp [Program.cellsOf, hi]
  have := key fs.toList h
  simp only [Sem.run_map]
  rw [this]
  simp only [Result.andThen_ok]
  congr 1
  apply Array.toList_inj.1
  simp

theorem abuild_sound {t : TypeId} {parts parts' : List (Nat × Value)} {v : Value} 
    (hm : parts.map (·.1) = parts'.map (·.1)) (hv : LRel ρ (parts.map (·.2)) (parts'.map (·.2))) (h : abuild P t parts = some v) :
    ∃ v', Still P (Instr.build t parts'.toArray) v' ∧ VRel ρ v v' := by
  unfold abuild at h
  split at h
  · rename_i fs sz by_ z ht
    split at h
    · rename_i cs hf
      split at h
      · rename_i hall
        simp only [Option.some.injEq] at h; subst h
        have hzz : VRel ρ z z := constOK_refl ρ (ti_zero ht)
        obtain ⟨r', h1, h2⟩ := afill_sound hm hv hzz.cells hf
        refine ⟨.agg r'.toArray, fun w => ?_, h2.agg⟩
        have hall' : ∀ f ∈ fs.toList, (P.info? f.type).isSome := by
          intro f hf'
          rw [Array.all_eq_true] at hall
          obtain ⟨i, hi, rfl⟩ := List.getElem_of_mem hf'
          simpa using hall i (by simpa using hi)
        simp only [Instr.build, Sem.run_bind, run_zero ht, run_tu ht, Result.andThen_ok]
        rw [map_places hall' w]
        have e : z.cells.toList.toArray = z.cells := by simp
        rw [e] at h1
        simp only [Result.andThen_ok]
        rw [h1]
        rfl
      · simp at h
    · simp at h
  · rename_i n e sz by_ z ht
    split at h
    · rename_i ie he
      split at h
      · rename_i cs hf
        simp only [Option.some.injEq] at h; subst h
        have hzz : VRel ρ z z := constOK_refl ρ (ti_zero ht)
        obtain ⟨r', h1, h2⟩ := afill_sound hm hv hzz.cells hf
        refine ⟨.agg r'.toArray, fun w => ?_, h2.agg⟩
        have e : z.cells.toList.toArray = z.cells := by simp
        rw [e] at h1
        simp [Instr.build, run_zero ht, run_tu ht, run_size he, h1]
      · simp at h
    · simp at h
  · simp at h
end Go.AM

/-
  THE ABSTRACT EXECUTOR: operations that look at nothing but their operands are what the model computes (3).
-/
set_option linter.unusedSimpArgs false
set_option linter.unusedVariables false
namespace Go.AM
variable {P : Program} {ρ : Rho}

theorem asIdx_run {v v' : Value} {i : Int} (h : asIdx v = some i) (hv : VRel ρ v v') : ∃ k, v' = .int k i := by
  cases hv <;> simp [asIdx] at h
  subst h
  exact ⟨_, rfl⟩

theorem aindexAddr_sound {t : TypeId} {x ix x' ix' v : Value} (hx : VRel ρ x x') (hi : VRel ρ ix ix') (h : aindexAddr P t x ix = some v) :
    ∃ v', Still P (Instr.indexAt t x' ix') v' ∧ VRel ρ v v' := by
  unfold aindexAddr at h
  split at h
  · rename_i e s1 s2 s3 b o sz len k i ht he
    obtain ⟨ki, rfl⟩ := asIdx_run he hi
    split at h
    · rename_i ie hie
      split at h
      · rename_i hc
        simp only [Bool.and_eq_true, decide_eq_true_eq] at hc
        obtain ⟨⟨hsz, h0⟩, h1⟩ := hc
        simp only [Option.some.injEq] at h; subst h
        cases hx with
        | slice0 => omega
        | slice hb hl hcap hk =>
          rename_i p cap
          refine ⟨_, fun w => ?_, .ptr hb⟩
          simp only [Instr.indexAt, asIntOf, Sem.run_bind, Sem.run_pure, Result.andThen_ok, run_tu ht]
          rw [if_pos ⟨h0, h1⟩]
          simp only [Sem.run_bind, run_size hie, Result.andThen_ok, Sem.run_pure]
          congr 4
          unfold Addr.add
          split
          · rename_i hz; simp only [Addr.mk.injEq, true_and, and_true]; rw [← hsz]; omega
          · simp only [Addr.mk.injEq, true_and, and_true]; rw [← hsz]; omega
      · simp at h
    · simp at h
  · rename_i n e s1 s2 s3 b o i ht he
    obtain ⟨ki, rfl⟩ := asIdx_run he hi
    split at h
    · rename_i ie hie
      split at h
      · rename_i hc
        simp only [Bool.and_eq_true, decide_eq_true_eq] at hc
        obtain ⟨h0, h1⟩ := hc
        simp only [Option.some.injEq] at h; subst h
        cases hx with
        | ptr hb =>
          rename_i p
          refine ⟨_, fun w => ?_, .ptr hb⟩
          simp only [Instr.indexAt, asIntOf, Sem.run_bind, Sem.run_pure, Result.andThen_ok, run_tu ht, Instr.sureAddr]
          rw [if_pos ⟨h0, h1⟩]
          simp only [Sem.run_bind, run_size hie, Result.andThen_ok, Sem.run_pure]
          congr 4
          unfold Addr.add
          split
          · rename_i hz; simp only [Addr.mk.injEq, true_and, and_true]; omega
          · simp only [Addr.mk.injEq, true_and, and_true]; omega
      · simp at h
    · simp at h
  · simp at h

theorem afieldAddr_sound {t : TypeId} {x x' v : Value} {f : Nat} (hx : VRel ρ x x') (h : afieldAddr P t x f = some v) :
    ∃ v', Still P (Instr.fieldAt t x' f) v' ∧ VRel ρ v v' := by
  unfold afieldAddr at h
  split at h
  · rename_i fs s1 s2 s3 b o ht
    split at h
    · rename_i fd hf
      split at h
      · rename_i i hi
        split at h
        · simp at h
        · rename_i hz
          simp only [Option.some.injEq] at h; subst h
          cases hx with
          | ptr hb =>
            refine ⟨_, fun w => ?_, .ptr hb⟩
            simp only [Instr.fieldAt, Sem.run_bind, run_tu ht, Result.andThen_ok, hf, Instr.sureAddr, Sem.run_pure, fieldPlace, run_size hi, if_neg hz, Sem.run_ite]
            congr 4
            unfold Addr.add
            split
            · simp only [Addr.mk.injEq, true_and, and_true]; omega
            · simp only [Addr.mk.injEq, true_and, and_true]; omega
      · simp at h
    · simp at h
  · simp at h

theorem afield_sound {t : TypeId} {x x' v : Value} {f : Nat} (hx : VRel ρ x x') (h : afield P t x f = some v) :
    ∃ v', Still P (Instr.field t x' f) v' ∧ VRel ρ v v' := by
  unfold afield at h
  split at h
  · rename_i fs s1 s2 s3 cs ht
    split at h
    · rename_i fd hf
      cases hx with
      | agg hs hc =>
        rename_i cs'
        obtain ⟨v', h1, h2⟩ := partA_sound (.toArray hs hc) h
        exact ⟨v', fun w => by simp [Instr.field, run_tu ht, hf, asAgg, h1 w], h2⟩
    · simp at h
  · simp at h

theorem aindex_sound {t : TypeId} {x ix x' ix' v : Value} (hx : VRel ρ x x') (hi : VRel ρ ix ix') (h : aindex P t x ix = some v) :
    ∃ v', Still P (Instr.index t x' ix') v' ∧ VRel ρ v v' := by
  unfold aindex at h
  split at h
  · rename_i n e s1 s2 s3 cs i ht he
    obtain ⟨ki, rfl⟩ := asIdx_run he hi
    split at h
    · rename_i ie hie
      split at h
      · rename_i hc
        simp only [Bool.and_eq_true, decide_eq_true_eq] at hc
        cases hx with
        | agg hs hcs =>
          obtain ⟨v', h1, h2⟩ := partA_sound (.toArray hs hcs) h
          refine ⟨v', fun w => ?_, h2⟩
          simp only [Instr.index, asIntOf, Sem.run_bind, Sem.run_pure, Result.andThen_ok, run_tu ht]
          rw [if_pos hc]
          simp [run_size hie, h1 w]
      · simp at h
    · simp at h
  · rename_i s1 s2 s3 s i ht he
    obtain ⟨ki, rfl⟩ := asIdx_run he hi
    split at h
    · rename_i h0
      split at h
      · rename_i bt hb
        simp only [Option.some.injEq] at h; subst h
        cases hx
        refine ⟨_, fun w => ?_, .int _ _⟩
        simp only [Instr.index, asIntOf, Sem.run_bind, Sem.run_pure, Result.andThen_ok, run_tu ht, if_pos h0, hb]
      · simp at h
    · simp at h
  · simp at h

theorem abound_sound {v v' : Option Value} {d top n : Nat} {code : BoundsCode} (hv : ∀ x, v = some x → ∃ x', v' = some x' ∧ VRel ρ x x') (h : abound v d top = some n) :
    (v = none → n = d) ∧ (∀ x, v = some x → n ≤ top ∧ ∃ k, v' = some (.int k (n : Int)) ∧ ∀ top', n ≤ top' → Still P (Instr.sliceBound (.int k (n : Int)) top' code) n) := by
  unfold abound at h
  split at h
  · simp only [Option.some.injEq] at h; exact ⟨fun _ => h.symm, fun x hx => by simp at hx⟩
  · rename_i x
    refine ⟨fun e => by simp at e, ?_⟩
    rintro y ⟨⟩
    obtain ⟨x', rfl, hx⟩ := hv _ rfl
    split at h
    · rename_i i hi
      obtain ⟨k, rfl⟩ := asIdx_run hi hx
      split at h
      · rename_i hc
        simp only [Option.some.injEq] at h; subst h
        refine ⟨by omega, k, by rw [Int.toNat_of_nonneg hc.1], fun top' ht w => ?_⟩
        have h1 : (0 : Int) ≤ ((i.toNat : Nat) : Int) ∧ ((i.toNat : Nat) : Int) ≤ (top' : Int) := ⟨by omega, by omega⟩
        simp only [Instr.sliceBound, asIntOf, Sem.run_bind, Sem.run_pure, Result.andThen_ok]
        rw [if_pos h1]
        simp only [Sem.run_pure, Result.ok.injEq, and_true]
        omega
      · simp at h
    · simp at h

theorem sliceBounds_two {is : Bool} {len cap l h : Nat} {lo hi lo' hi' : Option Value} (hlo : ∀ x, lo = some x → ∃ x', lo' = some x' ∧ VRel ρ x x') (hhi : ∀ x, hi = some x → ∃ x', hi' = some x' ∧ VRel ρ x x')
    (nlo : lo = none → lo' = none) (nhi : hi = none → hi' = none)
    (hl : len ≤ cap) (h1 : abound hi len len = some h) (h2 : abound lo 0 h = some l) : h ≤ len ∧ l ≤ h ∧ Still P (Instr.sliceBounds is len cap lo' hi' none) (l, h, cap) := by
  obtain ⟨a1, a2⟩ := abound_sound (P := P) (code := if is then .sliceAcap else .sliceAlen) hhi h1
  obtain ⟨b1, b2⟩ := abound_sound (P := P) (code := .sliceB) hlo h2
  have hh : h ≤ len := by
    cases hi with
    | none => have := a1 rfl; omega
    | some x => exact (a2 x rfl).1
  have ll : l ≤ h := by
    cases lo with
    | none => have := b1 rfl; omega
    | some x => exact (b2 x rfl).1
  refine ⟨hh, ll, fun w => ?_⟩
  cases hi with
  | none =>
    obtain rfl := nhi rfl
    obtain rfl := a1 rfl
    cases lo with
    | none => obtain rfl := nlo rfl; obtain rfl := b1 rfl; simp [Instr.sliceBounds]
    | some x => obtain ⟨_, k, rfl, hr⟩ := b2 x rfl; simp [Instr.sliceBounds, hr _ ll w]
  | some x =>
    obtain ⟨_, k, rfl, hr⟩ := a2 x rfl
    cases lo with
    | none => obtain rfl := nlo rfl; obtain rfl := b1 rfl; simp [Instr.sliceBounds, hr cap (by omega) w]
    | some x => obtain ⟨_, k, rfl, hr'⟩ := b2 x rfl; simp [Instr.sliceBounds, hr' _ ll w, hr cap (by omega) w]

theorem sliceBounds_three {len cap l h m : Nat} {lo lo' hi' mx' : Option Value} {hi mx : Value} (hlo : ∀ x, lo = some x → ∃ x', lo' = some x' ∧ VRel ρ x x') (hhi : ∃ x', hi' = some x' ∧ VRel ρ hi x') (hmx : ∃ x', mx' = some x' ∧ VRel ρ mx x')
    (nlo : lo = none → lo' = none)
    (hl : len ≤ cap) (h1 : abound (some hi) len len = some h) (h2 : abound lo 0 h = some l) (h3 : abound (some mx) 0 len = some m) (hm : h ≤ m) : l ≤ h ∧ m ≤ len ∧ Still P (Instr.sliceBounds true len cap lo' hi' mx') (l, h, m) := by
  obtain ⟨_, a2⟩ := abound_sound (P := P) (code := .slice3B) (v' := hi') (fun x e => by cases e; exact hhi) h1
  obtain ⟨b1, b2⟩ := abound_sound (P := P) (code := .slice3C) hlo h2
  obtain ⟨_, c2⟩ := abound_sound (P := P) (code := .slice3Acap) (v' := mx') (fun x e => by cases e; exact hmx) h3
  obtain ⟨m1, km, em, rm⟩ := c2 _ rfl
  obtain ⟨q1, kh, eh, rh⟩ := a2 _ rfl
  have ll : l ≤ h := by
    cases lo with
    | none => have := b1 rfl; omega
    | some x => exact (b2 x rfl).1
  refine ⟨ll, m1, fun w => ?_⟩
  subst em eh
  cases lo with
  | none => obtain rfl := nlo rfl; obtain rfl := b1 rfl; simp [Instr.sliceBounds, rm cap (by omega) w, rh m hm w]
  | some x => obtain ⟨_, k, rfl, hr⟩ := b2 x rfl; simp [Instr.sliceBounds, rm cap (by omega) w, rh m hm w, hr _ ll w]

theorem aslice_sound {t : TypeId} {x x' v : Value} {lo hi mx lo' hi' mx' : Option Value} (hx : VRel ρ x x')
    (hlo : ∀ x, lo = some x → ∃ x', lo' = some x' ∧ VRel ρ x x') (hhi : ∀ x, hi = some x → ∃ x', hi' = some x' ∧ VRel ρ x x') (hmx : ∀ x, mx = some x → ∃ x', mx' = some x' ∧ VRel ρ x x')
    (nlo : lo = none → lo' = none) (nhi : hi = none → hi' = none) (nmx : mx = none → mx' = none)
    (h : aslice P t x lo hi mx = some v) : ∃ v', Still P (Instr.sliceAt t x' lo' hi' mx') v' ∧ VRel ρ v v' := by
  unfold aslice at h
  split at h
  · rename_i s1 s2 s3 s ht
    cases hx
    split at h
    · rename_i hh hhi'
      split at h
      · rename_i l hl'
        simp only [Option.some.injEq] at h; subst h
        obtain ⟨e1, e2, e3⟩ := sliceBounds_two (P := P) (is := false) hlo hhi nlo nhi (Nat.le_refl _) hhi' hl'
        refine ⟨_, fun w => ?_, .string _⟩
        simp only [Instr.sliceAt, Instr.slice, Sem.run_bind, run_tu ht, Result.andThen_ok, nmx rfl, Option.isSome_none, Bool.false_eq_true, if_false, e3 w, Sem.run_pure]
      · simp at h
    · simp at h
  · rename_i e s1 s2 s3 a len k ht
    split at h
    · rename_i ie hh hie hhi'
      split at h
      · rename_i l hl'
        split at h
        · -- no max
          have nm := nmx rfl
          subst nm
          split at h
          · -- nil
            simp only [Option.some.injEq] at h; subst h
            cases hx
            obtain ⟨e1, e2, e3⟩ := sliceBounds_two (P := P) (is := true) (cap := 0) hlo hhi nlo nhi (Nat.le_refl _) hhi' hl'
            obtain rfl : hh = 0 := by omega
            obtain rfl : l = 0 := by omega
            refine ⟨_, fun w => ?_, .nilslice⟩
            simp [Instr.sliceAt, Instr.slice, run_tu ht, e3 w, run_size hie]
          · rename_i b o sz
            split at h
            · rename_i hsz
              subst hsz
              simp only [Option.some.injEq] at h; subst h
              cases hx with
              | slice0 =>
                obtain ⟨e1, e2, e3⟩ := sliceBounds_two (P := P) (is := true) (cap := 0) hlo hhi nlo nhi (Nat.le_refl _) hhi' hl'
                obtain rfl : hh = 0 := by omega
                obtain rfl : l = 0 := by omega
                rename_i a'
                refine ⟨.slice (some a') 0 0, fun w => ?_, .slice0 _ _ _ _ _⟩
                simp [Instr.sliceAt, Instr.slice, run_tu ht, e3 w, run_size hie]
              | slice hb hlc hcap hk =>
                rename_i p cap
                obtain ⟨e1, e2, e3⟩ := sliceBounds_two (P := P) (is := true) (cap := cap) hlo hhi nlo nhi hlc hhi' hl'
                by_cases hcl : cap = l
                · subst hcl
                  obtain rfl : hh = cap := by omega
                  refine ⟨.slice (some ⟨p.blk, p.sh + o, none⟩) 0 0, fun w => ?_, ?_⟩
                  · simp [Instr.sliceAt, Instr.slice, run_tu ht, e3 w, run_size hie]
                  · rw [Nat.sub_self]; exact .slice0 _ _ _ _ _
                · refine ⟨.slice (some ⟨p.blk, p.sh + (o + l * ie.size), none⟩) (hh - l) (cap - l), fun w => ?_, .slice hb (by omega) ?_ ?_⟩
                  · simp only [Instr.sliceAt, Instr.slice, Sem.run_bind, run_tu ht, Result.andThen_ok, e3 w, run_size hie, if_neg hcl, Sem.run_pure, Option.map_some]
                    congr 4
                    unfold Addr.add
                    split
                    · simp only [Addr.mk.injEq, true_and, and_true]; omega
                    · simp only [Addr.mk.injEq, true_and, and_true]; omega
                  · have : (cap - l) * ie.size + l * ie.size = cap * ie.size := by rw [← Nat.add_mul]; congr 1; omega
                    omega
                  · intro he
                    split at he
                    · rename_i hkk; have := hk hkk.1; omega
                    · omega
            · simp at h
          · simp at h
        · -- max
          rename_i m0
          split at h
          · rename_i b o sz m hv0 hm'
            split at h
            · rename_i hc
              obtain ⟨hsz, hhm⟩ := hc
              subst hsz
              simp only [Option.some.injEq] at h; subst h
              cases hx with
              | slice0 =>
                obtain ⟨e2, e1, e3⟩ := sliceBounds_three (P := P) (cap := 0) hlo (hhi _ rfl) (hmx _ rfl) nlo (Nat.le_refl _) hhi' hl' hm' hhm
                obtain rfl : m = 0 := by omega
                obtain rfl : hh = 0 := by omega
                obtain rfl : l = 0 := by omega
                rename_i a'
                refine ⟨.slice (some a') 0 0, fun w => ?_, .slice0 _ _ _ _ _⟩
                simp [Instr.sliceAt, Instr.slice, run_tu ht, e3 w, run_size hie]
              | slice hb hlc hcap hk =>
                rename_i p cap
                obtain ⟨e2, e1, e3⟩ := sliceBounds_three (P := P) (cap := cap) hlo (hhi _ rfl) (hmx _ rfl) nlo hlc hhi' hl' hm' hhm
                by_cases hcl : m = l
                · subst hcl
                  obtain rfl : hh = m := by omega
                  refine ⟨.slice (some ⟨p.blk, p.sh + o, none⟩) 0 0, fun w => ?_, ?_⟩
                  · simp [Instr.sliceAt, Instr.slice, run_tu ht, e3 w, run_size hie]
                  · rw [Nat.sub_self]; exact .slice0 _ _ _ _ _
                · refine ⟨.slice (some ⟨p.blk, p.sh + (o + l * ie.size), none⟩) (hh - l) (m - l), fun w => ?_, .slice hb (by omega) ?_ ?_⟩
                  · simp only [Instr.sliceAt, Instr.slice, Sem.run_bind, run_tu ht, Result.andThen_ok, e3 w, run_size hie, if_neg hcl, Sem.run_pure, Option.map_some]
                    congr 4
                    unfold Addr.add
                    split
                    · simp only [Addr.mk.injEq, true_and, and_true]; omega
                    · simp only [Addr.mk.injEq, true_and, and_true]; omega
                  · have h5 : (m - l) * ie.size + l * ie.size = m * ie.size := by rw [← Nat.add_mul]; congr 1; omega
                    have h6 : m * ie.size ≤ cap * ie.size := Nat.mul_le_mul_right _ (by omega)
                    omega
                  · intro he
                    split at he
                    · omega
                    · omega
            · simp at h
          · simp at h
      · simp at h
    · simp at h
  · simp at h

theorem alen_sound {ts : Array TypeId} {ty t : TypeId} {x x' v : Value} (ht : ts[0]? = some t) (hx : VRel ρ x x') (h : alen P t x = some v) : Still P (Builtin.len_ ts ty #[x']) v ∧ VRel ρ v v := by
  have ht' : ts[0]? = some t := ht
  unfold alen at h
  split at h <;> (try (simp at h; done)) <;> rename_i hu <;> simp only [Option.some.injEq] at h <;> subst h <;>
    (refine ⟨fun w => ?_, .int _ _⟩)
  · cases hx; simp [Builtin.len_, ht', run_und hu]
  · cases x' <;> simp [Builtin.len_, ht', run_und hu]
  · cases hx <;> simp [Builtin.len_, ht', run_und hu]
  · cases hx; simp [Builtin.len_, ht', run_und hu]

theorem amin2_sound {x y x' y' v : Value} (hx : VRel ρ x x') (hy : VRel ρ y y') (h : amin2 x y = some v) : Still P (Builtin.min2 x' y') v ∧ VRel ρ v v := by
  unfold amin2 at h
  split at h
  · cases hx; cases hy; simp only [Option.some.injEq] at h; subst h; exact ⟨fun w => rfl, .int _ _⟩
  · rename_i x y
    split at h
    · rename_i b hb
      obtain ⟨h1, _⟩ := astr_sound (P := P) (ρ := ρ) (t := 0) hb
      simp only [Option.some.injEq] at h; subst h
      cases hx; cases hy
      refine ⟨fun w => ?_, .string _⟩
      have h2 : (Op.stringOp .leq x y).run P w = .ok (.bool b) w := by simpa [Go.binOp] using h1 w
      simp [Builtin.min2, h2, asBool]
    · simp at h
  · simp at h
theorem amax2_sound {x y x' y' v : Value} (hx : VRel ρ x x') (hy : VRel ρ y y') (h : amax2 x y = some v) : Still P (Builtin.max2 x' y') v ∧ VRel ρ v v := by
  unfold amax2 at h
  split at h
  · cases hx; cases hy; simp only [Option.some.injEq] at h; subst h; exact ⟨fun w => rfl, .int _ _⟩
  · rename_i x y
    split at h
    · rename_i b hb
      obtain ⟨h1, _⟩ := astr_sound (P := P) (ρ := ρ) (t := 0) hb
      simp only [Option.some.injEq] at h; subst h
      cases hx; cases hy
      refine ⟨fun w => ?_, .string _⟩
      have h2 : (Op.stringOp .geq x y).run P w = .ok (.bool b) w := by simpa [Go.binOp] using h1 w
      simp [Builtin.max2, h2, asBool]
    · simp at h
  · simp at h
theorem afold_sound {f : Value → Value → Option Value} {g : Value → Value → Sem Value} (hf : ∀ {x y x' y' v : Value}, VRel ρ x x' → VRel ρ y y' → f x y = some v → Still P (g x' y') v ∧ VRel ρ v v) :
    ∀ {l l' : List Value} {x x' v : Value}, VRel ρ x x' → LRel ρ l l' → afold f x l = some v → ∃ v', Still P (l'.foldlM g x') v' ∧ VRel ρ v v' := by
  intro l
  induction l with
  | nil =>
    intro l' x x' v hx hl h
    cases hl
    simp only [afold, Option.some.injEq] at h; subst h
    exact ⟨x', fun w => rfl, hx⟩
  | cons y l ih =>
    intro l' x x' v hx hl h
    cases hl with
    | cons hy hl =>
      simp only [afold] at h
      split at h
      · rename_i z hz
        obtain ⟨h1, h2⟩ := hf hx hy hz
        obtain ⟨v', h3, h4⟩ := ih h2 hl h
        exact ⟨v', fun w => by simp [h1 w, h3 w], h4⟩
      · simp at h
end Go.AM

/-
  THE ABSTRACT EXECUTOR: every operation that looks at nothing but its operands.
-/
set_option linter.unusedSimpArgs false
set_option linter.unusedVariables false
namespace Go.AM
variable {P : Program} {ρ : Rho}

theorem run_makeInterface {t : TypeId} {d : TypeDesc} (h : P.underlying t = some d) (hd : ∀ ms, d ≠ .interface ms) (x : Value) (w : World) : (Instr.makeInterface t x).run P w = .ok (.iface t x) w := by
  simp only [Instr.makeInterface, Sem.run_bind, run_und h, Result.andThen_ok]
  cases d <;> first | rfl | exact absurd rfl (hd _)

theorem map_rel {G : Nat} {ea ec : Operand → Value} (hE : ∀ x, opndOK G x = true → VRel ρ (ea x) (ec x)) {l : List Operand} (h : l.all (opndOK G) = true) : LRel ρ (l.map ea) (l.map ec) := by
  induction l with
  | nil => exact .nil
  | cons x l ih => simp only [List.all_cons, Bool.and_eq_true] at h; exact .cons (hE x h.1) (ih h.2)

theorem opt_rel {G : Nat} {ea ec : Operand → Value} (hE : ∀ x, opndOK G x = true → VRel ρ (ea x) (ec x)) {o : Option Operand} (h : ∀ x, o = some x → opndOK G x = true) :
    (∀ x, o.map ea = some x → ∃ x', o.map ec = some x' ∧ VRel ρ x x') ∧ (o.map ea = none → o.map ec = none) := by
  cases o with
  | none => exact ⟨fun x hx => by simp at hx, fun _ => rfl⟩
  | some y => exact ⟨fun x hx => by simp at hx; subst hx; exact ⟨_, rfl, hE y (h y rfl)⟩, fun hx => by simp at hx⟩

theorem apure_sound {G : Nat} {ea ec : Operand → Value} (hE : ∀ x, opndOK G x = true → VRel ρ (ea x) (ec x)) {o : Oper} (ho : operOK G o = true) {v : Value} (h : apure P ea o.op = some v) :
    ∃ v', (∀ w, (execOp ec o).run P w = .ok (.value v') w) ∧ VRel ρ v v' := by
  have ho : ∀ x ∈ o.op.operands.toList, opndOK G x = true := List.all_eq_true.1 ho
  unfold apure at h
  split at h
  · -- move
    rename_i x hop
    simp only [Option.some.injEq] at h; subst h
    rw [hop] at ho
    exact ⟨ec x, fun w => by simp [execOp, hop], hE x (ho x (by simp [Op.operands, Call.operands]))⟩
  · rename_i x hop
    simp only [Option.some.injEq] at h; subst h
    rw [hop] at ho
    exact ⟨ec x, fun w => by simp [execOp, hop], hE x (ho x (by simp [Op.operands, Call.operands]))⟩
  · -- pick
    rename_i c a b hop
    rw [hop] at ho
    have hc := hE c (ho c (by simp [Op.operands, Call.operands]))
    split at h
    · rename_i hcv
      rw [hcv] at hc
      simp only [Option.some.injEq] at h; subst h
      refine ⟨ec a, fun w => ?_, hE a (ho a (by simp [Op.operands, Call.operands]))⟩
      generalize hcc : ec c = cc at hc
      cases hc
      simp [execOp, hop, hcc, asBool]
    · rename_i hcv
      rw [hcv] at hc
      simp only [Option.some.injEq] at h; subst h
      refine ⟨ec b, fun w => ?_, hE b (ho b (by simp [Op.operands, Call.operands]))⟩
      generalize hcc : ec c = cc at hc
      cases hc
      simp [execOp, hop, hcc, asBool]
    · simp at h
  · -- build
    rename_i t parts hop
    rw [hop] at ho
    have hall : (parts.toList.map (·.2)).all (opndOK G) = true := by
      rw [List.all_eq_true]
      intro x hx
      rw [List.mem_map] at hx
      obtain ⟨p, hp, rfl⟩ := hx
      exact ho p.2 (by simp only [Op.operands, List.mem_map]; exact ⟨p, hp, rfl⟩)
    obtain ⟨v', h1, h2⟩ := abuild_sound (ρ := ρ) (parts' := parts.toList.map fun p => (p.1, ec p.2)) (by simp) (by have := map_rel hE hall; simpa [List.map_map, Function.comp_def] using this) h
    refine ⟨v', fun w => ?_, h2⟩
    have e : (parts.toList.map fun p => (p.1, ec p.2)).toArray = parts.map fun (i, x) => (i, ec x) := by
      apply Array.toList_inj.1; simp
    rw [e] at h1
    simp only [execOp, hop, Sem.run_bind]
    rw [h1 w]; rfl
  · -- nilCheck
    rename_i x hop
    rw [hop] at ho
    have hx := hE x (ho x (by simp [Op.operands, Call.operands]))
    split at h
    · rename_i a hxv
      rw [hxv] at hx
      simp only [Option.some.injEq] at h; subst h
      generalize hcc : ec x = cc at hx
      refine ⟨cc, fun w => ?_, hx⟩
      cases hx
      simp [execOp, hop, hcc]
    · simp at h
  · -- binOp
    rename_i op t x y yt hop
    rw [hop] at ho
    obtain ⟨v', h1, h2⟩ := abin_sound (ox := x) (oy := y) (hE x (ho x (by simp [Op.operands, Call.operands]))) (hE y (ho y (by simp [Op.operands, Call.operands]))) h
    refine ⟨v', fun w => ?_, h2⟩
    simp only [execOp, hop]
    rw [Sem.run_bind, h1 w]; rfl
  · -- unOp
    rename_i op t x hop
    rw [hop] at ho
    obtain ⟨h1, h2⟩ := aun_sound (P := P) (hE x (ho x (by simp [Op.operands, Call.operands]))) h
    exact ⟨v, fun w => by simp only [execOp, hop]; rw [Sem.run_bind, h1 w]; rfl, h2⟩
  · -- convert
    rename_i s d x hop
    rw [hop] at ho
    obtain ⟨h1, h2⟩ := aconv_sound (hE x (ho x (by simp [Op.operands, Call.operands]))) h
    exact ⟨v, fun w => by simp only [execOp, hop]; rw [Sem.run_bind, h1 w]; rfl, h2⟩
  · -- makeInterface
    rename_i t x hop
    rw [hop] at ho
    split at h
    · simp at h
    · rename_i d hnd hu
      split at h
      · simp only [Option.some.injEq] at h; subst h
        exact ⟨.iface t (ec x), fun w => by simp only [execOp, hop]; rw [Sem.run_bind, run_makeInterface hu (fun ms e => hnd ms e)]; rfl, .iface t (hE x (ho x (by simp [Op.operands, Call.operands])))⟩
      · simp at h
    · simp at h
  · -- makeFunc
    rename_i f first captured hop
    rw [hop] at ho
    simp only [Option.some.injEq] at h; subst h
    have hf : first.toList.all (opndOK G) = true := by rw [List.all_eq_true]; intro x hx; exact ho x (by simp [Op.operands]; exact Or.inl (by simpa using hx))
    have hc : captured.toList.all (opndOK G) = true := by rw [List.all_eq_true]; intro x hx; exact ho x (by simp [Op.operands]; exact Or.inr (by simpa using hx))
    refine ⟨.func (.func f) (first.map ec) (captured.map ec), fun w => by simp [execOp, hop, Instr.makeFunc], ?_⟩
    refine .func f (by simp) (by simp) (fun i hi hi' => ?_) (fun i hi hi' => ?_)
    · simp only [Array.getElem_map]
      exact hE _ (List.all_eq_true.1 hf _ (by simp))
    · simp only [Array.getElem_map]
      exact hE _ (List.all_eq_true.1 hc _ (by simp))
  · -- slice
    rename_i t x lo hi mx hop
    rw [hop] at ho
    obtain ⟨l1, l2⟩ := opt_rel (ρ := ρ) hE (o := lo) (fun y hy => ho y (by simp [Op.operands, hy]))
    obtain ⟨m1, m2⟩ := opt_rel (ρ := ρ) hE (o := hi) (fun y hy => ho y (by simp [Op.operands, hy]))
    obtain ⟨n1, n2⟩ := opt_rel (ρ := ρ) hE (o := mx) (fun y hy => ho y (by simp [Op.operands, hy]))
    obtain ⟨v', h1, h2⟩ := aslice_sound (hE x (ho x (by simp [Op.operands, Call.operands]))) l1 m1 n1 l2 m2 n2 h
    exact ⟨v', fun w => by simp only [execOp, hop]; rw [Sem.run_bind, h1 w]; rfl, h2⟩
  · -- fieldAddr
    rename_i s x f hop
    rw [hop] at ho
    obtain ⟨v', h1, h2⟩ := afieldAddr_sound (hE x (ho x (by simp [Op.operands, Call.operands]))) h
    exact ⟨v', fun w => by simp only [execOp, hop]; rw [Sem.run_bind, h1 w]; rfl, h2⟩
  · rename_i s x f hop
    rw [hop] at ho
    obtain ⟨v', h1, h2⟩ := afield_sound (hE x (ho x (by simp [Op.operands, Call.operands]))) h
    exact ⟨v', fun w => by simp only [execOp, hop]; rw [Sem.run_bind, h1 w]; rfl, h2⟩
  · rename_i t x ix hop
    rw [hop] at ho
    obtain ⟨v', h1, h2⟩ := aindexAddr_sound (hE x (ho x (by simp [Op.operands, Call.operands]))) (hE ix (ho ix (by simp [Op.operands, Call.operands]))) h
    exact ⟨v', fun w => by simp only [execOp, hop]; rw [Sem.run_bind, h1 w]; rfl, h2⟩
  · rename_i t x ix hop
    rw [hop] at ho
    obtain ⟨v', h1, h2⟩ := aindex_sound (hE x (ho x (by simp [Op.operands, Call.operands]))) (hE ix (ho ix (by simp [Op.operands, Call.operands]))) h
    exact ⟨v', fun w => by simp only [execOp, hop]; rw [Sem.run_bind, h1 w]; rfl, h2⟩
  · -- extract
    rename_i x i hop
    rw [hop] at ho
    have hx := hE x (ho x (by simp [Op.operands, Call.operands]))
    split at h
    · rename_i vs hxv
      rw [hxv] at hx
      generalize hcc : ec x = cc at hx
      cases hx with
      | tuple hs hc =>
        rename_i vs'
        obtain ⟨v', h1, h2⟩ := (LRel.toArray hs hc).get? (i := i) (v := v) (by simpa using h)
        have h1' : vs'[i]? = some v' := by simpa using h1
        exact ⟨v', fun w => by simp [execOp, hop, hcc, Instr.extract, h1'], h2⟩
    · simp at h
  · -- len
    rename_i args argTypes hop
    rw [hop] at ho
    split at h
    · rename_i x t ha hat
      have hargs : args = #[x] := by apply Array.toList_inj.1; simpa using ha
      have htys : argTypes = #[t] := by apply Array.toList_inj.1; simpa using hat
      subst hargs htys
      obtain ⟨h1, h2⟩ := alen_sound (P := P) (ts := #[t]) (ty := o.type) (t := t) (by simp) (hE x (ho x (by simp [Op.operands, Call.operands]))) h
      exact ⟨v, fun w => by simp [execOp, hop, resolve, invoke, builtin, h1 w], h2⟩
    · simp at h
  · -- min
    rename_i args at_ hop
    rw [hop] at ho
    split at h
    · rename_i x r ha
      have hall : args.toList.all (opndOK G) = true := by rw [List.all_eq_true]; intro y hy; exact ho y (by simp [Op.operands, Call.operands]; simpa using hy)
      have hm := map_rel hE hall
      rw [ha] at hm
      cases hl : args.toList.map ec with
      | nil => rw [hl] at hm; cases hm
      | cons x' r' =>
        rw [hl] at hm
        cases hm with
        | cons hx hr =>
          obtain ⟨v', h1, h2⟩ := afold_sound (g := Builtin.min2) (P := P) (fun a b c => amin2_sound a b c) hx hr h
          refine ⟨v', fun w => ?_, h2⟩
          have e : (args.map ec).toList = x' :: r' := by simpa using hl
          simp [execOp, hop, resolve, invoke, builtin, Builtin.min_, hl, h1 w]
    · simp at h
  · -- max
    rename_i args at_ hop
    rw [hop] at ho
    split at h
    · rename_i x r ha
      have hall : args.toList.all (opndOK G) = true := by rw [List.all_eq_true]; intro y hy; exact ho y (by simp [Op.operands, Call.operands]; simpa using hy)
      have hm := map_rel hE hall
      rw [ha] at hm
      cases hl : args.toList.map ec with
      | nil => rw [hl] at hm; cases hm
      | cons x' r' =>
        rw [hl] at hm
        cases hm with
        | cons hx hr =>
          obtain ⟨v', h1, h2⟩ := afold_sound (g := Builtin.max2) (P := P) (fun a b c => amax2_sound a b c) hx hr h
          refine ⟨v', fun w => ?_, h2⟩
          simp [execOp, hop, resolve, invoke, builtin, Builtin.max_, hl, h1 w]
    · simp at h
  · simp at h
end Go.AM

/-
  THE ABSTRACT EXECUTOR: memory: what is laid, changed, read and written.
-/
set_option linter.unusedSimpArgs false
set_option linter.unusedVariables false
namespace Go.AM
variable {P : Program} {ρ : Rho} {G : Nat} {h : AHeap} {w : World}

def upd (ρ : Rho) (b : Nat) (p : Pl) : Rho := fun i => if i = b then some p else ρ i
theorem upd_same (ρ : Rho) (b : Nat) (p : Pl) : upd ρ b p b = some p := by simp [upd]
theorem upd_ne {ρ : Rho} {b i : Nat} (p : Pl) (h : i ≠ b) : upd ρ b p i = ρ i := by simp [upd, h]
theorem HRel.updLe (H : HRel G ρ h w) (p : Pl) : RhoLe ρ (upd ρ h.length p) := by
  intro b q hq
  have := H.bd b q hq
  rw [upd_ne _ (by omega)]; exact hq

theorem get_append_old {h : AHeap} {o : AObj} {b : Nat} (hb : b < h.length) : (h ++ [o])[b]? = h[b]? := by
  rw [List.getElem?_append_left hb]
theorem get_append {h : AHeap} {o x : AObj} {b : Nat} (hx : (h ++ [o])[b]? = some x) : (b < h.length ∧ h[b]? = some x) ∨ (b = h.length ∧ x = o) := by
  rw [List.getElem?_append] at hx
  split at hx
  · rename_i hl; exact Or.inl ⟨hl, hx⟩
  · rename_i hl
    right
    have : b - h.length = 0 := by
      rcases Nat.eq_zero_or_pos (b - h.length) with e | e
      · exact e
      · rw [List.getElem?_eq_none (by simp; omega)] at hx; simp at hx
    rw [this] at hx
    simp at hx
    exact ⟨by omega, hx.symm⟩

theorem heap_push_old (w : World) (o : Obj) {c : Nat} (hc : c < w.heap.size) : (w.alloc o).heap[c]? = w.heap[c]? := by
  show (w.heap.push o)[c]? = _
  rw [Array.getElem?_push, if_neg (by omega)]
theorem heap_push_new (w : World) (o : Obj) : (w.alloc o).heap[w.heap.size]? = some o := by
  show (w.heap.push o)[w.heap.size]? = _
  simp

/-- A new object on both sides. -/
theorem HRel.alloc (H : HRel G ρ h w) {oc : Obj} {oa : AObj} {sh en : Nat} (hobj : ObjRel G (upd ρ h.length ⟨w.heap.size, sh, en⟩) (w.alloc oc) ⟨w.heap.size, sh, en⟩ oa) :
    HRel G (upd ρ h.length ⟨w.heap.size, sh, en⟩) (h ++ [oa]) (w.alloc oc) ∧ Fr ρ h w (upd ρ h.length ⟨w.heap.size, sh, en⟩) (h ++ [oa]) (w.alloc oc) := by
  have hle := H.updLe ⟨w.heap.size, sh, en⟩
  have hold : ∀ {b : Nat} {p : Pl}, b < h.length → upd ρ h.length ⟨w.heap.size, sh, en⟩ b = some p → ρ b = some p := by
    intro b p hb hp; rw [upd_ne _ (by omega)] at hp; exact hp
  refine ⟨⟨?_, ?_, ?_, ?_, ?_, ?_, ?_, ?_⟩, ⟨hle, by simp, rfl, rfl, rfl, ?_, ?_⟩⟩
  · intro b o hb ho
    rcases get_append hb with ⟨hl, hb⟩ | ⟨rfl, rfl⟩
    · obtain ⟨p, hp⟩ := H.dom b o hb ho; exact ⟨p, hle b p hp⟩
    · exact ⟨_, upd_same _ _ _⟩
  · intro b o p hb hp
    rcases get_append hb with ⟨hl, hb⟩ | ⟨rfl, rfl⟩
    · have hp' := hold hl hp
      exact (H.obj b o p hb hp').mono hle (fun _ => heap_push_old w oc (H.lt b p hp'))
    · rw [upd_same] at hp; simp only [Option.some.injEq] at hp; subst hp; exact hobj
  · intro b p hp
    by_cases hb : b = h.length
    · subst hb; rw [upd_same] at hp; simp only [Option.some.injEq] at hp; subst hp; simp
    · rw [upd_ne _ hb] at hp; have := H.lt b p hp; simp; omega
  · intro b p hp
    by_cases hb : b = h.length
    · subst hb; simp
    · rw [upd_ne _ hb] at hp; have := H.bd b p hp; simp; omega
  · intro b b' o o' p p' hne hb hb' hp hp' ho ho'
    rcases get_append hb with ⟨hl, hb⟩ | ⟨rfl, rfl⟩ <;> rcases get_append hb' with ⟨hl', hb'⟩ | ⟨rfl, rfl⟩
    · exact H.sep b b' o o' p p' hne hb hb' (hold hl hp) (hold hl' hp') ho ho'
    · rw [upd_same] at hp'; simp only [Option.some.injEq] at hp'; subst hp'
      have := H.lt b p (hold hl hp); simp; omega
    · rw [upd_same] at hp; simp only [Option.some.injEq] at hp; subst hp
      have := H.lt b' p' (hold hl' hp'); simp; omega
    · exact absurd rfl hne
  · intro g hg; obtain ⟨en, he⟩ := H.glob g hg; exact ⟨en, hle _ _ he⟩
  · intro b o p hb hp ho
    rcases get_append hb with ⟨hl, hb⟩ | ⟨rfl, rfl⟩
    · exact H.gown b o p hb (hold hl hp) ho
    · rw [upd_same] at hp; simp only [Option.some.injEq] at hp; subst hp; exact H.gsz
  · have := H.gsz; simp; omega
  · intro b o p hb ho hp hlt
    rcases get_append hb with ⟨hl, hb⟩ | ⟨rfl, rfl⟩
    · exact ⟨b, o, p, hb, ho, hold hl hp, rfl⟩
    · rw [upd_same] at hp; simp only [Option.some.injEq] at hp; subst hp; exact absurd hlt (Nat.lt_irrefl _)
  · intro c hc _; exact heap_push_old w oc hc

theorem set_get {h : AHeap} {b i : Nat} {o x : AObj} (hb : b < h.length) (hx : (h.set b o)[i]? = some x) : (i ≠ b ∧ h[i]? = some x) ∨ (i = b ∧ x = o) := by
  by_cases e : i = b
  · subst e; rw [List.getElem?_set_self hb] at hx; simp at hx; exact Or.inr ⟨rfl, hx.symm⟩
  · rw [List.getElem?_set_ne (by omega)] at hx; exact Or.inl ⟨e, hx⟩

theorem lt_of_get {h : AHeap} {b : Nat} {o : AObj} (hb : h[b]? = some o) : b < h.length := by
  rcases Nat.lt_or_ge b h.length with e | e
  · exact e
  · rw [List.getElem?_eq_none e] at hb; simp at hb

/-- What is one's own is changed in place. -/
theorem HRel.update (H : HRel G ρ h w) {b : Nat} {oa oa' : AObj} {p : Pl} {w' : World} (hb : h[b]? = some oa) (hown : oa.own = true) (hp : ρ b = some p)
    (hsz : w'.heap.size = w.heap.size) (ht : w'.tape = w.tape) (hos : w'.os = w.os) (hout : w'.output = w.output)
    (hk : ∀ c, c ≠ p.blk → w'.heap[c]? = w.heap[c]?) (hown' : oa'.own = true) (hobj : ObjRel G ρ w' p oa') :
    HRel G ρ (h.set b oa') w' ∧ Fr ρ h w ρ (h.set b oa') w' := by
  have hbl := lt_of_get hb
  have hlive : ∀ {o : AObj}, o.own = true → o.live = true := by intro o ho; cases o <;> first | rfl | simp [AObj.own] at ho
  refine ⟨⟨?_, ?_, ?_, ?_, ?_, ?_, ?_, ?_⟩, ⟨.refl ρ, by omega, ht, hos, hout, ?_, ?_⟩⟩
  · intro i o hi ho
    rcases set_get hbl hi with ⟨_, hi⟩ | ⟨rfl, rfl⟩
    · exact H.dom i o hi ho
    · exact ⟨p, hp⟩
  · intro i o q hi hq
    rcases set_get hbl hi with ⟨hne, hi⟩ | ⟨rfl, rfl⟩
    · refine (H.obj i o q hi hq).mono (.refl ρ) (fun ho => hk _ ?_)
      exact fun e => H.sep b i oa o p q (fun e' => hne e'.symm) hb hi hp hq hown ho e.symm
    · rw [hp] at hq; simp only [Option.some.injEq] at hq; subst hq; exact hobj
  · intro i q hq; have := H.lt i q hq; omega
  · intro i q hq; have := H.bd i q hq; simpa using this
  · intro i j o o' q q' hne hi hj hq hq' ho ho'
    rcases set_get hbl hi with ⟨_, hi2⟩ | ⟨rfl, rfl⟩ <;> rcases set_get hbl hj with ⟨_, hj2⟩ | ⟨rfl, rfl⟩
    · exact H.sep i j o o' q q' hne hi2 hj2 hq hq' ho ho'
    · exact H.sep i _ o oa q q' hne hi2 hb hq hq' ho (hlive hown)
    · exact H.sep _ j oa o' q q' hne hb hj2 hq hq' hown ho'
    · exact absurd rfl hne
  · exact H.glob
  · intro i o q hi hq ho
    rcases set_get hbl hi with ⟨_, hi⟩ | ⟨rfl, rfl⟩
    · exact H.gown i o q hi hq ho
    · exact H.gown _ oa q hb hq hown
  · have := H.gsz; omega
  · intro i o q hi ho hq _
    rcases set_get hbl hi with ⟨_, hi⟩ | ⟨rfl, rfl⟩
    · exact ⟨i, o, q, hi, ho, hq, rfl⟩
    · exact ⟨_, oa, q, hb, hown, hq, rfl⟩
  · intro c hc hn; exact hk c (fun e => hn b oa p hb hown hp e.symm)

/-- A block is no longer spoken of. -/
theorem HRel.kill (H : HRel G ρ h w) {b : Nat} (hbl : b < h.length) : HRel G ρ (h.set b .dead) w ∧ Fr ρ h w ρ (h.set b .dead) w := by
  refine ⟨⟨?_, ?_, H.lt, ?_, ?_, H.glob, ?_, H.gsz⟩, ⟨.refl ρ, Nat.le_refl _, rfl, rfl, rfl, ?_, fun _ _ _ => rfl⟩⟩
  · intro i o hi ho
    rcases set_get hbl hi with ⟨_, hi⟩ | ⟨rfl, rfl⟩
    · exact H.dom i o hi ho
    · simp [AObj.live] at ho
  · intro i o q hi hq
    rcases set_get hbl hi with ⟨_, hi⟩ | ⟨rfl, rfl⟩
    · exact H.obj i o q hi hq
    · trivial
  · intro i q hq; have := H.bd i q hq; simpa using this
  · intro i j o o' q q' hne hi hj hq hq' ho ho'
    rcases set_get hbl hi with ⟨_, hi⟩ | ⟨rfl, rfl⟩
    · rcases set_get hbl hj with ⟨_, hj⟩ | ⟨rfl, rfl⟩
      · exact H.sep i j o o' q q' hne hi hj hq hq' ho ho'
      · simp [AObj.live] at ho'
    · simp [AObj.own] at ho
  · intro i o q hi hq ho
    rcases set_get hbl hi with ⟨_, hi⟩ | ⟨rfl, rfl⟩
    · exact H.gown i o q hi hq ho
    · simp [AObj.own] at ho
  · intro i o q hi ho hq _
    rcases set_get hbl hi with ⟨_, hi⟩ | ⟨rfl, rfl⟩
    · exact ⟨i, o, q, hi, ho, hq, rfl⟩
    · simp [AObj.own] at ho

/-- A new name for a block whose old name is dropped; the block is changed. -/
theorem HRel.rename (H : HRel G ρ h w) {b : Nat} {oa oa' : AObj} {p p' : Pl} {w' : World} (hb : h[b]? = some oa) (hown : oa.own = true) (hp : ρ b = some p) (hpp : p'.blk = p.blk)
    (hsz : w'.heap.size = w.heap.size) (ht : w'.tape = w.tape) (hos : w'.os = w.os) (hout : w'.output = w.output)
    (hk : ∀ c, c ≠ p.blk → w'.heap[c]? = w.heap[c]?) (hown' : oa'.own = true) (hobj : ObjRel G (upd ρ h.length p') w' p' oa') :
    HRel G (upd ρ h.length p') (h.set b .dead ++ [oa']) w' ∧ Fr ρ h w (upd ρ h.length p') (h.set b .dead ++ [oa']) w' := by
  have hbl := lt_of_get hb
  have hlive : ∀ {o : AObj}, o.own = true → o.live = true := by intro o ho; cases o <;> first | rfl | simp [AObj.own] at ho
  have hle := H.updLe p'
  have hlen : (h.set b .dead).length = h.length := by simp
  have hold : ∀ {i : Nat} {q : Pl}, i < h.length → upd ρ h.length p' i = some q → ρ i = some q := by
    intro i q hi hq; rw [upd_ne _ (by omega)] at hq; exact hq
  have look : ∀ {i : Nat} {o : AObj}, (h.set b .dead ++ [oa'])[i]? = some o → (i < h.length ∧ i ≠ b ∧ h[i]? = some o) ∨ (i = b ∧ o = .dead) ∨ (i = h.length ∧ o = oa') := by
    intro i o hi
    rcases get_append hi with ⟨hl, hi⟩ | ⟨e, rfl⟩
    · rcases set_get hbl hi with ⟨hne, hi⟩ | ⟨rfl, rfl⟩
      · exact Or.inl ⟨by simpa using hl, hne, hi⟩
      · exact Or.inr (Or.inl ⟨rfl, rfl⟩)
    · exact Or.inr (Or.inr ⟨by simpa using e, rfl⟩)
  refine ⟨⟨?_, ?_, ?_, ?_, ?_, ?_, ?_, ?_⟩, ⟨hle, by omega, ht, hos, hout, ?_, ?_⟩⟩
  · intro i o hi ho
    rcases look hi with ⟨_, _, hi⟩ | ⟨rfl, rfl⟩ | ⟨rfl, rfl⟩
    · obtain ⟨q, hq⟩ := H.dom i o hi ho; exact ⟨q, hle _ _ hq⟩
    · simp [AObj.live] at ho
    · exact ⟨_, upd_same _ _ _⟩
  · intro i o q hi hq
    rcases look hi with ⟨hl, hne, hi⟩ | ⟨rfl, rfl⟩ | ⟨rfl, rfl⟩
    · have hq' := hold hl hq
      refine (H.obj i o q hi hq').mono hle (fun ho => hk _ ?_)
      exact fun e => H.sep b i oa o p q (fun e' => hne e'.symm) hb hi hp hq' hown ho e.symm
    · trivial
    · rw [upd_same] at hq; simp only [Option.some.injEq] at hq; subst hq; exact hobj
  · intro i q hq
    by_cases e : i = h.length
    · subst e; rw [upd_same] at hq; simp only [Option.some.injEq] at hq; subst hq; have := H.lt b p hp; omega
    · rw [upd_ne _ e] at hq; have := H.lt i q hq; omega
  · intro i q hq
    by_cases e : i = h.length
    · subst e; simp
    · rw [upd_ne _ e] at hq; have := H.bd i q hq; simp; omega
  · intro i j o o' q q' hne hi hj hq hq' ho ho'
    rcases look hi with ⟨hl, hn, hi2⟩ | ⟨rfl, rfl⟩ | ⟨rfl, rfl⟩
    · rcases look hj with ⟨hl', hn', hj2⟩ | ⟨rfl, rfl⟩ | ⟨rfl, rfl⟩
      · exact H.sep i j o o' q q' hne hi2 hj2 (hold hl hq) (hold hl' hq') ho ho'
      · simp [AObj.live] at ho'
      · rw [upd_same] at hq'; simp only [Option.some.injEq] at hq'; subst hq'
        rw [hpp]
        exact H.sep i b o oa q p hn hi2 hb (hold hl hq) hp ho (hlive hown)
    · simp [AObj.own] at ho
    · rw [upd_same] at hq; simp only [Option.some.injEq] at hq; subst hq
      rcases look hj with ⟨hl', hn', hj2⟩ | ⟨rfl, rfl⟩ | ⟨rfl, rfl⟩
      · rw [hpp]; exact H.sep b j oa o' p q' (fun e => hn' e.symm) hb hj2 hp (hold hl' hq') hown ho'
      · simp [AObj.live] at ho'
      · exact absurd rfl hne
  · intro g hg; obtain ⟨en, he⟩ := H.glob g hg; exact ⟨en, hle _ _ he⟩
  · intro i o q hi hq ho
    rcases look hi with ⟨hl, hn, hi⟩ | ⟨rfl, rfl⟩ | ⟨rfl, rfl⟩
    · exact H.gown i o q hi (hold hl hq) ho
    · simp [AObj.own] at ho
    · rw [upd_same] at hq; simp only [Option.some.injEq] at hq; subst hq; rw [hpp]; exact H.gown b oa p hb hp hown
  · have := H.gsz; omega
  · intro i o q hi ho hq _
    rcases look hi with ⟨hl, hn, hi⟩ | ⟨rfl, rfl⟩ | ⟨rfl, rfl⟩
    · exact ⟨i, o, q, hi, ho, hold hl hq, rfl⟩
    · simp [AObj.own] at ho
    · rw [upd_same] at hq; simp only [Option.some.injEq] at hq; subst hq; exact ⟨b, oa, p, hb, hown, hp, hpp.symm⟩
  · intro c hc hn; exact hk c (fun e => hn b oa p hb hown hp e.symm)

/-! ### Reading -/
theorem add_eq (b o i : Nat) : Addr.add ⟨b, o, none⟩ i = ⟨b, o + i, none⟩ := by
  unfold Addr.add; split
  · rename_i e; subst e; rfl
  · rfl

theorem run_loadCellsFrom (b o : Nat) (vs : List Value) : ∀ (i : Nat) (acc : Array Value), (∀ (j : Nat) (v : Value), vs[j]? = some v → w.cell? ⟨b, o + (i + j), none⟩ = some v) →
    (loadCellsFrom ⟨b, o, none⟩ i vs.length acc).run P w = .ok (acc ++ vs.toArray) w := by
  induction vs with
  | nil => intro i acc _; simp [loadCellsFrom]
  | cons v vs ih =>
    intro i acc hc
    have h0 := hc 0 v rfl
    simp only [List.length_cons, loadCellsFrom, Sem.run_bind, run_load, add_eq]
    rw [show o + (i + 0) = o + i by omega] at h0
    rw [h0]
    simp only [Result.andThen_ok]
    rw [ih (i + 1) (acc.push v) (fun j u hj => by rw [show o + (i + 1 + j) = o + (i + (j + 1)) by omega]; exact hc (j + 1) u (by simpa using hj))]
    simp
theorem run_loadCells (b o : Nat) (vs : List Value) (hc : ∀ (j : Nat) (v : Value), vs[j]? = some v → w.cell? ⟨b, o + j, none⟩ = some v) :
    (loadCells ⟨b, o, none⟩ vs.length).run P w = .ok vs.toArray w := by
  have := run_loadCellsFrom (P := P) b o vs 0 #[] (fun j v hj => by simpa using hc j v hj)
  simpa [loadCells] using this

theorem cell_of {w : World} {b : Nat} {c : Array Value} {t : TypeId} {fz : Nat × Nat} (hb : w.heap[b]? = some (.cells c t fz)) (i : Nat) : w.cell? ⟨b, i, none⟩ = c[i]? := by
  simp [World.cell?, hb]

theorem cells?_spec {h : AHeap} {b : Nat} {cs : List Value} (hc : cells? h b = some cs) : ∃ own, h[b]? = some (.row cs own) := by
  unfold cells? at hc
  split at hc
  · rename_i cs' own hb; simp only [Option.some.injEq] at hc; subst hc; exact ⟨own, hb⟩
  · simp at hc

/-- What the abstract heap reads, the world reads. -/
theorem loadN_sound (H : HRel G ρ h w) {b o n : Nat} {cs : List Value} {p : Pl} (hp : ρ b = some p) (hl : loadN h b o n = some cs) :
    ∃ cs', (loadCells ⟨p.blk, p.sh + o, none⟩ n).run P w = .ok cs'.toArray w ∧ LRel ρ cs cs' ∧ cs.length = n ∧ (∀ (j : Nat) (v : Value), cs'[j]? = some v → w.cell? ⟨p.blk, p.sh + o + j, none⟩ = some v) := by
  unfold loadN at hl
  split at hl
  · rename_i rs hrs
    split at hl
    · rename_i hle
      simp only [Option.some.injEq] at hl; subst hl
      obtain ⟨own, hb⟩ := cells?_spec hrs
      obtain ⟨c, t, fz, h1, h2, h3, h4, h5⟩ := H.obj b _ p hb hp
      have hlen : ((rs.drop o).take n).length = n := by simp; omega
      let cs' := ((c.toList.drop (p.sh + o)).take n)
      have hlen' : cs'.length = n := by simp [cs']; omega
      have hcell : ∀ (j : Nat) (v : Value), cs'[j]? = some v → w.cell? ⟨p.blk, p.sh + o + j, none⟩ = some v := by
        intro j v hj
        rw [cell_of h1]
        simp only [cs', List.getElem?_take, List.getElem?_drop] at hj
        split at hj
        · simpa using hj
        · simp at hj
      refine ⟨cs', ?_, ?_, hlen, hcell⟩
      · have := run_loadCells (P := P) (w := w) p.blk (p.sh + o) cs' hcell
        rw [hlen'] at this; exact this
      · refine .of_get (by omega) (fun i hi hi' => ?_)
        have hin : i < n := by omega
        have hrv : rs[o + i]? = some ((rs.drop o).take n)[i] := by simp
        obtain ⟨v', hv', hrel⟩ := h3 (o + i) _ hrv
        have : cs'[i]? = some v' := by
          simp only [cs', List.getElem?_take, List.getElem?_drop, if_pos hin, Array.getElem?_toList]
          rw [show p.sh + o + i = p.sh + (o + i) by omega]; exact hv'
        rw [List.getElem?_eq_getElem hi'] at this
        simp only [Option.some.injEq] at this
        rw [this]; exact hrel
    · simp at hl
  · simp at hl

theorem load1_sound (H : HRel G ρ h w) {b o : Nat} {v : Value} {p : Pl} (hp : ρ b = some p) (hl : load1 h b o = some v) :
    ∃ v', w.cell? ⟨p.blk, p.sh + o, none⟩ = some v' ∧ VRel ρ v v' := by
  unfold load1 at hl
  split at hl
  · rename_i rs hrs
    obtain ⟨own, hb⟩ := cells?_spec hrs
    obtain ⟨c, t, fz, h1, h2, h3, h4, h5⟩ := H.obj b _ p hb hp
    obtain ⟨v', hv', hrel⟩ := h3 o v hl
    exact ⟨v', by rw [cell_of h1]; exact hv', hrel⟩
  · simp at hl

theorem aload_sound (H : HRel G ρ h w) {t : TypeId} {a a' v : Value} (ha : VRel ρ a a') (hl : aload P h t a = some v) :
    ∃ v', (Instr.loadAt t a').run P w = .ok v' w ∧ (∃ x, a' = .pointer (some x) ∧ (loadVar t x).run P w = .ok v' w) ∧ VRel ρ v v' := by
  unfold aload at hl
  split at hl
  · rename_i b o i hi
    cases ha with
    | ptr hp =>
      rename_i p
      split at hl
      · rename_i hagg
        split at hl
        · rename_i cs hcs
          simp only [Option.some.injEq] at hl; subst hl
          obtain ⟨cs', h1, h2, _, _⟩ := loadN_sound (P := P) H hp hcs
          have hr : (loadVar t ⟨p.blk, p.sh + o, none⟩).run P w = .ok (.agg cs'.toArray) w := by
            simp [loadVar, run_isAgg hi, hagg, run_size hi, h1]
          exact ⟨.agg cs'.toArray, by simp [Instr.loadAt, Instr.sureAddr, hr], ⟨_, rfl, hr⟩, h2.agg⟩
        · simp at hl
      · rename_i hagg
        obtain ⟨v', h1, h2⟩ := load1_sound H hp hl
        have hr : (loadVar t ⟨p.blk, p.sh + o, none⟩).run P w = .ok v' w := by
          simp [loadVar, run_isAgg hi, hagg, h1]
        exact ⟨v', by simp [Instr.loadAt, Instr.sureAddr, hr], ⟨_, rfl, hr⟩, h2⟩
  · simp at hl

/-! ### Writing -/
theorem run_storeCells {w : World} {b o : Nat} : ∀ (vs : List Value) (i : Nat) (w : World) (c : Array Value) (t : TypeId) (fz : Nat × Nat), w.heap[b]? = some (.cells c t fz) → o + i + vs.length ≤ c.size →
    (∀ j, o + i ≤ j → j < o + i + vs.length → ¬(fz.1 ≤ j ∧ j < fz.2)) → (∀ v ∈ vs, isCell v = true) →
    ∃ w', (storeCells ⟨b, o, none⟩ vs i).run P w = .ok () w' ∧ w'.heap[b]? = some (.cells (splice c.toList (o + i) vs).toArray t fz) ∧ (∀ k, k ≠ b → w'.heap[k]? = w.heap[k]?) ∧ w'.heap.size = w.heap.size ∧ w'.tape = w.tape ∧ w'.os = w.os ∧ w'.output = w.output := by
  intro vs
  induction vs with
  | nil =>
    intro i w c t fz hb hl hf hc
    refine ⟨w, rfl, ?_, fun _ _ => rfl, rfl, rfl, rfl, rfl⟩
    rw [hb]; simp [splice]
  | cons v vs ih =>
    intro i w c t fz hb hl hf hc
    simp only [List.length_cons] at hl hf
    have hcell : w.cell? ⟨b, o + i, none⟩ = some (c[o + i]'(by omega)) := by rw [cell_of hb]; simp
    have hfz : w.frozen? ⟨b, o + i, none⟩ = false := by
      have := hf (o + i) (by omega) (by omega)
      simp only [World.frozen?, hb]
      rw [Bool.eq_false_iff]
      simpa using this
    have hone : v.oneCell' = true := by have := hc v (by simp); cases v <;> first | rfl | simp [isCell] at this
    have hbl : b < w.heap.size := by
      rcases Nat.lt_or_ge b w.heap.size with e | e
      · exact e
      · rw [Array.getElem?_eq_none e] at hb; simp at hb
    let w1 := w.setCell ⟨b, o + i, none⟩ v
    have hb1 : w1.heap[b]? = some (.cells (c.setIfInBounds (o + i) v) t fz) := by
      simp only [w1, World.setCell, Array.getElem?_modify, if_true, hb, Option.map_some]
      simp
    obtain ⟨w', h1, h2, h3, h4, h5, h6, h7⟩ := ih (i + 1) w1 (c.setIfInBounds (o + i) v) t fz hb1 (by simp; omega) (fun j hj hj' => hf j (by omega) (by omega)) (fun u hu => hc u (by simp [hu]))
    refine ⟨w', ?_, ?_, ?_, ?_, h5, h6, h7⟩
    · simp only [storeCells, Sem.run_bind, add_eq, run_store P w _ v .plain hone, hcell, hfz]
      simpa using h1
    · rw [h2]
      congr 2
      apply Array.toList_inj.1
      simp only [Array.toList_setIfInBounds]
      apply List.ext_getElem?
      intro k
      rw [splice_get (by simp; omega), splice_get (by simp; omega)]
      simp only [List.length_cons]
      by_cases k1 : k < o + i
      · rw [if_pos (by omega), if_pos k1, List.getElem?_set_ne (by omega)]
      · by_cases k2 : k = o + i
        · subst k2
          rw [if_pos (by omega), if_neg (by omega), if_pos (by omega), List.getElem?_set_self (by simp; omega)]
          simp
        · rw [if_neg (by omega), if_neg k1]
          by_cases k3 : k < o + (i + 1) + vs.length
          · rw [if_pos k3, if_pos (by omega)]
            rw [show k - (o + i) = (k - (o + (i + 1))) + 1 by omega, List.getElem?_cons_succ]
          · rw [if_neg k3, if_neg (by omega), List.getElem?_set_ne (by omega)]
    · intro k hk
      rw [h3 k hk]
      simp only [w1, World.setCell, Array.getElem?_modify]
      rw [if_neg (fun e => hk e.symm)]
    · rw [h4]; simp [w1]

theorem storeN_sound (H : HRel G ρ h w) {b o : Nat} {vs vs' : List Value} {h' : AHeap} {p : Pl} (hp : ρ b = some p) (hv : LRel ρ vs vs') (hs : storeN h b o vs = some h') :
    ∃ w', (storeCells ⟨p.blk, p.sh + o, none⟩ vs').run P w = .ok () w' ∧ HRel G ρ h' w' ∧ Fr ρ h w ρ h' w' := by
  unfold storeN at hs
  split at hs
  · rename_i cs hb
    split at hs
    · rename_i hc
      simp only [Bool.and_eq_true, decide_eq_true_eq] at hc
      obtain ⟨hle, hcell⟩ := hc
      simp only [Option.some.injEq] at hs; subst hs
      obtain ⟨c, t, fz, h1, h2, h3, h4, h5⟩ := H.obj b _ p hb hp
      obtain ⟨h6, h7⟩ := h5 rfl
      have hl := hv.length
      have hcell' : ∀ v ∈ vs', isCell v = true := by
        intro v hvm
        obtain ⟨i, hi, rfl⟩ := List.getElem_of_mem hvm
        have hi' : i < vs.length := by omega
        obtain ⟨v', e1, e2⟩ := hv.get? (i := i) (v := vs[i]) (by simp)
        rw [List.getElem?_eq_getElem hi] at e1
        simp only [Option.some.injEq] at e1
        rw [e1, e2.isCell]
        exact List.all_eq_true.1 hcell _ (by simp)
      obtain ⟨w', r1, r2, r3, r4, r5, r6, r7⟩ := run_storeCells (P := P) (w := w) (b := p.blk) (o := p.sh + o) vs' 0 w c t fz h1 (by omega) (fun j hj hj' => h7 j (by omega) (by omega)) hcell'
      refine ⟨w', r1, H.update hb rfl hp r4 r5 r6 r7 r3 rfl ?_⟩
      refine ⟨_, t, fz, r2, ?_, ?_, ?_, fun _ => ⟨?_, h7⟩⟩
      · rw [splice_length hle]
        simp only [List.size_toArray]
        rw [splice_length (by simp; omega)]; simpa using h2
      · intro i v hi
        rw [splice_get hle] at hi
        simp only [List.getElem?_toArray, Nat.add_zero]
        rw [splice_get (by simp; omega)]
        by_cases k1 : i < o
        · rw [if_pos k1] at hi; rw [if_pos (by omega)]; simpa using h3 i v hi
        · rw [if_neg k1] at hi; rw [if_neg (by omega)]
          by_cases k2 : i < o + vs.length
          · rw [if_pos k2] at hi; rw [if_pos (by omega)]
            rw [show p.sh + i - (p.sh + o) = i - o by omega]
            exact hv.get? hi
          · rw [if_neg k2] at hi; rw [if_neg (by omega)]; simpa using h3 i v hi
      · rw [splice_length hle]; exact h4
      · simp only [List.size_toArray]; rw [splice_length (by simp; omega)]; simpa using h6
    · simp at hs
  · simp at hs
end Go.AM

/-
  THE ABSTRACT EXECUTOR: operations that read, lay and change memory.
-/
set_option linter.unusedSimpArgs false
set_option linter.unusedVariables false
namespace Go.AM
variable {P : Program} {ρ : Rho} {G : Nat} {h : AHeap} {w : World}

/-- A new row of one's own. -/
theorem new_row (H : HRel G ρ h w) {cs cs' : List Value} (hc : LRel ρ cs cs') (extra : List Value) (e : TypeId) :
    HRel G (upd ρ h.length ⟨w.heap.size, 0, cs'.length + extra.length⟩) (h ++ [.row cs true]) (w.alloc (.cells (cs' ++ extra).toArray e)) ∧
    Fr ρ h w (upd ρ h.length ⟨w.heap.size, 0, cs'.length + extra.length⟩) (h ++ [.row cs true]) (w.alloc (.cells (cs' ++ extra).toArray e)) := by
  refine H.alloc ?_
  have hl := hc.length
  refine ⟨_, e, (0, 0), heap_push_new w _, by simp; omega, ?_, by simp; omega, fun _ => ⟨by simp, fun o _ _ => by simp⟩⟩
  intro i v hi
  obtain ⟨v', h1, h2⟩ := (hc.mono (H.updLe ⟨w.heap.size, 0, cs'.length + extra.length⟩)).get? hi
  refine ⟨v', ?_, h2⟩
  have : i < cs'.length := by
    rcases Nat.lt_or_ge i cs'.length with e | e
    · exact e
    · rw [List.getElem?_eq_none e] at h1; simp at h1
  simp only [Nat.zero_add, List.getElem?_toArray]
  rw [List.getElem?_append_left this]; exact h1

theorem new_row0 (H : HRel G ρ h w) {cs cs' : List Value} (hc : LRel ρ cs cs') (e : TypeId) :
    HRel G (upd ρ h.length ⟨w.heap.size, 0, cs'.length⟩) (h ++ [.row cs true]) (w.alloc (.cells cs'.toArray e)) ∧
    Fr ρ h w (upd ρ h.length ⟨w.heap.size, 0, cs'.length⟩) (h ++ [.row cs true]) (w.alloc (.cells cs'.toArray e)) := by
  have := new_row H hc [] e
  simpa using this

theorem zeros_eq (z : Array Value) (hz : 0 < z.size) : ∀ n : Nat, ((Array.range (n * z.size)).map (fun i => z[i % z.size]!)).toList = zerosOf z.toList n := by
  intro n
  induction n with
  | zero => simp [zerosOf]
  | succ n ih =>
    simp only [zerosOf]
    rw [← ih]
    apply List.ext_getElem?
    intro i
    simp only [Array.toList_map, Array.toList_range, List.getElem?_map, List.getElem?_append, List.length_range, Array.length_toList]
    by_cases h1 : i < z.size
    · rw [if_pos h1]
      have : i < (n + 1) * z.size := by rw [Nat.add_mul]; omega
      rw [List.getElem?_range this]
      simp [Nat.mod_eq_of_lt h1, h1]
    · rw [if_neg h1]
      by_cases h2 : i < (n + 1) * z.size
      · have h3 : i - z.size < n * z.size := by rw [Nat.add_mul] at h2; omega
        rw [List.getElem?_range h2, List.getElem?_range h3]
        simp only [Option.map_some, Option.some.injEq]
        rw [← Nat.mod_eq_sub_mod (by omega)]
      · have h3 : ¬ i - z.size < n * z.size := by rw [Nat.add_mul] at h2; omega
        rw [List.getElem?_eq_none (by simp; omega), List.getElem?_eq_none (by simp; omega)]

theorem zerosOf_length (z : List Value) : ∀ n, (zerosOf z n).length = n * z.length
  | 0 => by simp [zerosOf]
  | n + 1 => by simp [zerosOf, zerosOf_length z n, Nat.add_mul]; omega
theorem zerosOf_rel {z : List Value} (hz : LRel ρ z z) : ∀ n, LRel ρ (zerosOf z n) (zerosOf z n)
  | 0 => .nil
  | n + 1 => hz.append (zerosOf_rel hz n)

/-- What an operation comes to. -/
def Out (G : Nat) (P : Program) (ρ : Rho) (h : AHeap) (w : World) (s : Sem Next) (v : Value) (h' : AHeap) : Prop :=
  ∃ (ρ' : Rho) (v' : Value) (w' : World) (n : Next), s.run P w = .ok n w' ∧ (n = .value v' ∨ (n = .skip ∧ v' = undef)) ∧ VRel ρ' v v' ∧ HRel G ρ' h' w' ∧ Fr ρ h w ρ' h' w'

theorem Out.still {s : Sem Next} {v v' : Value} (H : HRel G ρ h w) (hr : s.run P w = .ok (.value v') w) (hv : VRel ρ v v') : Out G P ρ h w s v h :=
  ⟨ρ, v', w, _, hr, Or.inl rfl, hv, H, .refl _ _ _⟩

theorem anew_sound (H : HRel G ρ h w) {cs cs' : List Value} (hc : LRel ρ cs cs') (e : TypeId) {s : Sem Next}
    (hs : s.run P w = .ok (.value (.pointer (some ⟨w.heap.size, 0, none⟩))) (w.alloc (.cells cs'.toArray e))) :
    Out G P ρ h w s (anew h cs).1 (anew h cs).2 := by
  obtain ⟨h1, h2⟩ := new_row0 H hc e
  exact ⟨_, _, _, _, hs, Or.inl rfl, by have := VRel.ptr (ρ := upd ρ h.length ⟨w.heap.size, 0, cs'.length⟩) (o := 0) (upd_same _ _ _); simpa [anew] using this, h1, h2⟩

theorem asliceArr_sound (H : HRel G ρ h w) {t : TypeId} {x x' v : Value} {lo hi mx lo' hi' mx' : Option Value} (hx : VRel ρ x x')
    (hlo : ∀ x, lo = some x → ∃ x', lo' = some x' ∧ VRel ρ x x') (hhi : ∀ x, hi = some x → ∃ x', hi' = some x' ∧ VRel ρ x x')
    (nlo : lo = none → lo' = none) (nhi : hi = none → hi' = none) (nmx : mx = none → mx' = none)
    (hs : asliceArr P h t x lo hi mx = some v) : ∃ v', (Instr.sliceAt t x' lo' hi' mx').run P w = .ok v' w ∧ VRel ρ v v' := by
  unfold asliceArr at hs
  split at hs
  · rename_i n e s1 s2 s3 b o ht
    split at hs
    · rename_i ie hh cs hie hhi' hcs
      split at hs
      · rename_i l hl'
        split at hs
        · rename_i hle
          simp only [Option.some.injEq] at hs; subst hs
          cases hx with
          | ptr hb =>
            rename_i p
            obtain ⟨own, hrow⟩ := cells?_spec hcs
            obtain ⟨c, tt, fz, g1, g2, g3, g4, g5⟩ := H.obj b _ p hrow hb
            obtain ⟨e1, e2, e3⟩ := sliceBounds_two (P := P) (is := false) (cap := n) hlo hhi nlo nhi (Nat.le_refl _) hhi' hl'
            have nm := nmx rfl
            subst nm
            by_cases hcl : n = l
            · subst hcl
              obtain rfl : hh = n := by omega
              refine ⟨.slice (some ⟨p.blk, p.sh + o, none⟩) 0 0, ?_, ?_⟩
              · simp [Instr.sliceAt, run_tu ht, Instr.sureAddr, e3 w, run_size hie]
              · rw [Nat.sub_self]; exact .slice0 _ _ _ _ _
            · refine ⟨.slice (some ⟨p.blk, p.sh + (o + l * ie.size), none⟩) (hh - l) (n - l), ?_, .slice hb (by omega) ?_ ?_⟩
              · simp only [Instr.sliceAt, Sem.run_bind, run_tu ht, Result.andThen_ok, Instr.sureAddr, Sem.run_pure, e3 w, run_size hie, if_neg hcl]
                congr 4
                unfold Addr.add
                split
                · simp only [Addr.mk.injEq, true_and, and_true]; omega
                · simp only [Addr.mk.injEq, true_and, and_true]; omega
              · have : (n - l) * ie.size + l * ie.size = n * ie.size := by rw [← Nat.add_mul]; congr 1; omega
                omega
              · intro he
                split at he <;> omega
        · simp at hs
      · simp at hs
    · simp at hs
  · simp at hs

theorem alenMap_sound (H : HRel G ρ h w) {t ty : TypeId} {x x' v : Value} (hx : VRel ρ x x') (hs : alenMap P h t x = some v) :
    (Builtin.len_ #[t] ty #[x']).run P w = .ok v w ∧ VRel ρ v v := by
  unfold alenMap at hs
  split at hs
  · rename_i k e r hu
    split at hs
    · rename_i es hb
      simp only [Option.some.injEq] at hs; subst hs
      cases hx with
      | map hp =>
        obtain ⟨es', clock, g1, g2⟩ := H.obj _ _ _ hb hp
        have hl : es.length = es'.size := by
          have : ∀ {a : List (Value × Value)} {b : List MapEntry}, ERel ρ a b → a.length = b.length := by
            intro a b hab; induction hab with
            | nil => rfl
            | cons _ _ _ ih => simp [ih]
          simpa using this g2
        refine ⟨?_, .int _ _⟩
        simp [Builtin.len_, run_und hu, getObj, Sem.run, g1, hl]
    · simp at hs
  · simp at hs

theorem astore_sound (H : HRel G ρ h w) {t : TypeId} {a a' v v' : Value} {h' : AHeap} (ha : VRel ρ a a') (hv : VRel ρ v v') (hs : astore P h t a v = some h') :
    ∃ w', (Instr.storeAt t a' v').run P w = .ok () w' ∧ HRel G ρ h' w' ∧ Fr ρ h w ρ h' w' := by
  unfold astore at hs
  split at hs
  · rename_i b o i hi
    split at hs
    · rename_i hc
      simp only [Bool.and_eq_true, decide_eq_true_eq] at hc
      cases ha with
      | ptr hp =>
        obtain ⟨w', r1, r2, r3⟩ := storeN_sound (P := P) H hp hv.cells hs
        have hsz := hv.cellsSize
        refine ⟨w', ?_, r2, r3⟩
        simp only [Instr.storeAt, Instr.sureAddr, Sem.run_bind, Sem.run_pure, Result.andThen_ok, storeVar, run_size hi]
        rw [if_neg (by omega)]
        simp [r1]
    · simp at hs
  · simp at hs

theorem loadElems_sound (H : HRel G ρ h w) {sz m : Nat} {x x' : Value} {new : List Value} (hx : VRel ρ x x') (hm : elemsLen x = some m) (hl : loadElems h sz x = some new) :
    (Builtin.lenOf x').run P w = .ok m w ∧ ∃ new', (Builtin.firstCells sz m x').run P w = .ok new'.toArray w ∧ LRel ρ new new' ∧ new.length = m * sz := by
  unfold loadElems at hl
  split at hl
  · simp only [Option.some.injEq] at hl; subst hl
    simp only [elemsLen, Option.some.injEq] at hm; subst hm
    cases hx with
    | nilslice => exact ⟨rfl, [], rfl, .nil, by simp⟩
  · rename_i b o s n k
    split at hl
    · rename_i hs
      subst hs
      simp only [elemsLen, Option.some.injEq] at hm; subst hm
      cases hx with
      | slice hp hle hc hk =>
        obtain ⟨cs', r1, r2, r3, _⟩ := loadN_sound (P := P) H hp hl
        exact ⟨rfl, cs', by simpa [Builtin.firstCells] using r1, r2, r3⟩
      | slice0 =>
        refine ⟨rfl, [], by simp [Builtin.firstCells, loadCells, loadCellsFrom], ?_, ?_⟩
        · unfold loadN at hl
          split at hl
          · split at hl
            · simp at hl; subst hl; exact .nil
            · simp at hl
          · simp at hl
        · unfold loadN at hl
          split at hl
          · split at hl
            · simp at hl; subst hl; simp
            · simp at hl
          · simp at hl
    · simp at hl
  · rename_i s
    split at hl
    · rename_i hs
      subst hs
      simp only [Option.some.injEq] at hl; subst hl
      simp only [elemsLen, Option.some.injEq] at hm; subst hm
      cases hx with
      | string =>
        refine ⟨rfl, s.data.toList.map (fun b => .int .u8 b.toNat), ?_, ?_, ?_⟩
        · simp only [Builtin.firstCells, Sem.run_pure]
          congr 1
          apply Array.toList_inj.1
          have e : (s.extract 0 s.size).data = s.data := by rw [ByteArray.data_extract]; exact Array.extract_size
          rw [e]
          simp
        · generalize s.data.toList = l
          induction l with
          | nil => exact .nil
          | cons a l ih => exact .cons (.int _ _) ih
        · rw [List.length_map, Array.length_toList, Nat.mul_one]; rfl
    · simp at hl
  · simp at hl
end Go.AM

/-
  THE ABSTRACT EXECUTOR: append, make, literals, iterators; every operation but calls.
-/
set_option linter.unusedSimpArgs false
set_option linter.unusedVariables false
namespace Go.AM
variable {P : Program} {ρ : Rho} {G : Nat} {h : AHeap} {w : World}

/-- What a computation of one value comes to. -/
def OutV (G : Nat) (P : Program) (ρ : Rho) (h : AHeap) (w : World) (s : Sem Value) (v : Value) (h' : AHeap) : Prop :=
  ∃ (ρ' : Rho) (v' : Value) (w' : World), s.run P w = .ok v' w' ∧ VRel ρ' v v' ∧ HRel G ρ' h' w' ∧ Fr ρ h w ρ' h' w'
theorem OutV.out {s : Sem Value} {v : Value} {h' : AHeap} (k : OutV G P ρ h w s v h') : Out G P ρ h w (do pure (.value (← s))) v h' := by
  obtain ⟨ρ', v', w', h1, h2, h3, h4⟩ := k
  exact ⟨ρ', v', w', _, by simp [h1], Or.inl rfl, h2, h3, h4⟩

theorem run_append_grow' {sT xT ty e : TypeId} {ie : TI} {d : TypeDesc} (ht : P.underlying sT = some (.slice e)) (hie : ti P e = some ie) (hu : P.underlying xT = some d) (hd : ∀ k, d ≠ .int k)
    {base : Option Addr} {sLen sCap n : Nat} {x' : Value} {olds news : List Value} (hn : (Builtin.lenOf x').run P w = .ok n w) (hg : sCap < sLen + n) (h32 : sLen + n ≤ lim) (hb : ie.bytes ≤ limBytes)
    (ho : (Builtin.firstCells ie.size sLen (.slice base sLen sCap)).run P w.drew = .ok olds.toArray w.drew) (hx : (Builtin.firstCells ie.size n x').run P w.drew = .ok news.toArray w.drew) :
    (Builtin.append_ #[sT, xT] ty #[.slice base sLen sCap, x']).run P w =
      .ok (.slice (some ⟨w.heap.size, 0, none⟩) (sLen + n) (grownCap w (sLen + n) sCap e))
        (w.drew.alloc (.cells (olds.toArray ++ news.toArray ++ Builtin.zeroCells ie.zero.cells (grownCap w (sLen + n) sCap e - (sLen + n))) e)) := by
  obtain ⟨hue, i, hi, hs, hby, hz⟩ := ti_spec hie
  have hn1 : ¬ (sLen + n ≤ sCap) := by omega
  have hlim : lim = 4294967296 := rfl
  have hlb : limBytes = 4096 := rfl
  have h63' : ¬ (9223372036854775807 < ((sLen : Int) + (n : Int))) := by omega
  have hmul : (sLen + n) * ie.bytes ≤ 4294967296 * 4096 := Nat.mul_le_mul (by omega) (by omega)
  have hfit := growslice_fits hg (bytes := ie.bytes) (by omega)
  have h48' : ¬ (281474976710656 < Builtin.nextslicecap (sLen + n) sCap * i.bytes) := by rw [hby]; omega
  rw [← hs] at ho hx
  cases d <;> first
    | (exact absurd rfl (hd _))
    | (simp only [Builtin.append_, Sem.run_bind, run_und ht, run_und hu, Result.andThen_ok, List.getElem?_toArray, List.getElem?_cons_zero, List.getElem?_cons_succ, Sem.run_pure]
       simp [hn, hn1, sizeOf, typeInfo, zeroValue, hi, hz, h63', h48', Question.forced, ho, hx, newRow, grownCap]
       congr 2
       apply Array.toList_inj.1
       simp)

theorem run_append_room' {sT xT ty e : TypeId} {ie : TI} {d : TypeDesc} (ht : P.underlying sT = some (.slice e)) (hie : ti P e = some ie) (hu : P.underlying xT = some d) (hd : ∀ k, d ≠ .int k)
    {a : Addr} {sLen sCap n : Nat} {x' : Value} {news : List Value} {w' : World} (hn : (Builtin.lenOf x').run P w = .ok n w) (hg : sLen + n ≤ sCap)
    (hx : (Builtin.firstCells ie.size n x').run P w = .ok news.toArray w) (hst : (storeCells (a.add (sLen * ie.size)) news).run P w = .ok () w') :
    (Builtin.append_ #[sT, xT] ty #[.slice (some a) sLen sCap, x']).run P w = .ok (.slice (some a) (sLen + n) sCap) w' := by
  obtain ⟨hue, i, hi, hs, hby, hz⟩ := ti_spec hie
  rw [← hs] at hx hst
  cases d <;> first
    | (exact absurd rfl (hd _))
    | (simp only [Builtin.append_, Sem.run_bind, run_und ht, run_und hu, Result.andThen_ok, List.getElem?_toArray, List.getElem?_cons_zero, List.getElem?_cons_succ, Sem.run_pure]
       simp [hn, hg, sizeOf, typeInfo, zeroValue, hi, hz, hx, hst])

theorem run_append_none {sT xT ty e : TypeId} {ie : TI} {d : TypeDesc} (ht : P.underlying sT = some (.slice e)) (hie : ti P e = some ie) (hu : P.underlying xT = some d) (hd : ∀ k, d ≠ .int k)
    {base : Option Addr} {sLen sCap : Nat} {x' : Value} {news : List Value} (hn : (Builtin.lenOf x').run P w = .ok 0 w) (hg : sLen ≤ sCap)
    (hx : (Builtin.firstCells ie.size 0 x').run P w = .ok #[] w) :
    (Builtin.append_ #[sT, xT] ty #[.slice base sLen sCap, x']).run P w = .ok (.slice base sLen sCap) w := by
  obtain ⟨hue, i, hi, hs, hby, hz⟩ := ti_spec hie
  rw [← hs] at hx
  cases d <;> first
    | (exact absurd rfl (hd _))
    | (simp only [Builtin.append_, Sem.run_bind, run_und ht, run_und hu, Result.andThen_ok, List.getElem?_toArray, List.getElem?_cons_zero, List.getElem?_cons_succ, Sem.run_pure]
       cases base <;> simp [hn, hg, sizeOf, typeInfo, zeroValue, hi, hz, hx, storeCells])

theorem cut_ge (w : World) (need old : Nat) (e : TypeId) : need ≤ grownCap w need old e := by
  unfold grownCap Question.cut
  exact Nat.le_add_right _ _

/-- The end of an append that makes a new row. -/
theorem grown_out (H : HRel G ρ h w) {e : TypeId} {ie : TI} (hie : ti P e = some ie) {cells cells' : List Value} (hc : LRel ρ cells cells') {need cap : Nat} (hlen : cells.length = need * ie.size) (hcap : need ≤ cap) {h0 : AHeap} {w0 : World} {ρ0 : Rho} (F : Fr ρ0 h0 w0 ρ h w)
    {s : Sem Value} (hr : s.run P w0 = .ok (.slice (some ⟨w.heap.size, 0, none⟩) need cap) (w.alloc (.cells (cells'.toArray ++ Builtin.zeroCells ie.zero.cells (cap - need)) e))) :
    OutV G P ρ0 h0 w0 s (.slice (some ⟨h.length, 0, some ie.size⟩) need (need + 1)) (h ++ [.row cells true]) := by
  have hz : (Builtin.zeroCells ie.zero.cells (cap - need)).size = (cap - need) * ie.size := by
    rw [← ti_size hie]; simp [Builtin.zeroCells]
  obtain ⟨h1, h2⟩ := new_row H hc (Builtin.zeroCells ie.zero.cells (cap - need)).toList e
  have ea : (cells' ++ (Builtin.zeroCells ie.zero.cells (cap - need)).toList).toArray = cells'.toArray ++ Builtin.zeroCells ie.zero.cells (cap - need) := by
    apply Array.toList_inj.1; simp
  rw [ea] at h1 h2
  refine ⟨_, _, _, hr, ?_, h1, F.trans h2⟩
  have hl := hc.length
  refine VRel.slice (p := ⟨w.heap.size, 0, _⟩) (upd_same _ _ _) hcap ?_ (by omega)
  simp only [Array.length_toList, hz]
  have : cap * ie.size = need * ie.size + (cap - need) * ie.size := by rw [← Nat.add_mul]; congr 1; omega
  omega

theorem aappend_sound (H : HRel G ρ h w) {sT xT ty : TypeId} {d : TypeDesc} (hu : P.underlying xT = some d) (hd : ∀ k, d ≠ .int k) {s s' x x' v : Value} {h' : AHeap} (hs : VRel ρ s s') (hx : VRel ρ x x')
    (ha : aappend P h sT s x = some (v, h')) : OutV G P ρ h w (Builtin.append_ #[sT, xT] ty #[s', x']) v h' := by
  unfold aappend at ha
  split at ha
  · rename_i e s1 s2 s3 a len k m ht hm
    have htu := (ti_spec ht).1
    split at ha
    · rename_i ie hie
      split at ha
      · -- nothing is appended
        rename_i hm0
        subst hm0
        simp only [Option.some.injEq, Prod.mk.injEq] at ha
        obtain ⟨rfl, rfl⟩ := ha
        have hl0 : (Builtin.lenOf x').run P w = .ok 0 w ∧ (Builtin.firstCells ie.size 0 x').run P w = .ok #[] w := by
          cases hx <;> simp [elemsLen] at hm
          · rename_i s0
            subst hm
            exact ⟨rfl, by simp only [Builtin.firstCells, Sem.run_pure]; congr 1; apply Array.eq_empty_of_size_eq_zero; simp [ByteArray.data_extract]⟩
          · exact ⟨rfl, rfl⟩
          · subst hm; exact ⟨rfl, by simp [Builtin.firstCells, loadCells, loadCellsFrom]⟩
          · exact ⟨rfl, by simp [Builtin.firstCells, loadCells, loadCellsFrom]⟩
        cases hs with
        | nilslice => exact ⟨ρ, _, w, run_append_none (news := []) htu hie hu hd hl0.1 (Nat.le_refl _) hl0.2, .nilslice, H, .refl _ _ _⟩
        | slice hp hl hc hk => exact ⟨ρ, _, w, run_append_none (news := []) htu hie hu hd hl0.1 hl hl0.2, .slice hp hl hc hk, H, .refl _ _ _⟩
        | slice0 => exact ⟨ρ, _, w, run_append_none (news := []) htu hie hu hd hl0.1 (Nat.le_refl _) hl0.2, .slice0 _ _ _ _ _, H, .refl _ _ _⟩
      · rename_i hm0
        split at ha
        · rename_i hcond
          simp only [Bool.and_eq_true, decide_eq_true_eq] at hcond
          obtain ⟨⟨hlim, hby⟩, hsz⟩ := hcond
          split at ha
          · -- a nil slice
            rename_i new hnew
            simp only [Option.some.injEq, Prod.mk.injEq] at ha
            obtain ⟨rfl, rfl⟩ := ha
            obtain ⟨e1, new', e2, e3, e4⟩ := loadElems_sound (P := P) H hx hm hnew
            obtain ⟨f1, new2, f2, f3, f4⟩ := loadElems_sound (P := P) H.drew hx hm hnew
            cases hs
            have hrun := run_append_grow' (ty := ty) (base := none) (sLen := 0) (sCap := 0) (olds := []) htu hie hu hd e1 (by omega) (by omega) hby (by simp [Builtin.firstCells]) f2
            simp only [Nat.zero_add, List.nil_append] at *
            refine grown_out H.drew hie f3 f4 (cut_ge w m 0 e) (Fr.drew ρ h w) ?_
            rw [hrun]
            simp
          · rename_i new b o sz hnew
            split at ha
            · rename_i hsz'
              subst hsz'
              split at ha
              · rename_i old cs own hold hb
                obtain ⟨e1, new', e2, e3, e4⟩ := loadElems_sound (P := P) H hx hm hnew
                obtain ⟨f1, new2, f2, f3, f4⟩ := loadElems_sound (P := P) H.drew hx hm hnew
                -- what a growing append comes to
                have grow : ∀ {base : Option Addr} {cap : Nat} {old2 : List Value}, cap < len + m → LRel ρ old old2 → (Builtin.firstCells ie.size len (.slice base len cap)).run P w.drew = .ok old2.toArray w.drew → ∀ {hk : AHeap}, HRel G ρ hk w → Fr ρ h w ρ hk w → old.length = len * ie.size → hk.length = h.length →
                    OutV G P ρ h w (Builtin.append_ #[sT, xT] ty #[.slice base len cap, x']) (.slice (some ⟨h.length, 0, some ie.size⟩) (len + m) (len + m + 1)) (hk ++ [.row (old ++ new) true]) := by
                  intro base cap old2 hlt ho2 hrun2 hk Hk Fk hol hkl
                  have hrun := run_append_grow' (ty := ty) (base := base) (sLen := len) (sCap := cap) (olds := old2) htu hie hu hd e1 hlt hlim hby hrun2 f2
                  have := grown_out (P := P) (G := G) (s := Builtin.append_ #[sT, xT] ty #[.slice base len cap, x']) Hk.drew hie (ho2.append f3) (need := len + m) (cap := grownCap w (len + m) cap e) (by simp [hol, f4, Nat.add_mul]) (cut_ge w _ _ e) (Fk.trans (Fr.drew ρ hk w)) (by
                    rw [hrun]; congr 3; apply Array.toList_inj.1; simp)
                  rw [hkl] at this; exact this
                have oldLen : old.length = len * ie.size := by
                  unfold loadN at hold; split at hold
                  · split at hold
                    · simp only [Option.some.injEq] at hold; subst hold; simp; omega
                    · simp at hold
                  · simp at hold
                split at ha
                · -- no room: a new row; the old one stays
                  rename_i hkl
                  simp only [Option.some.injEq, Prod.mk.injEq] at ha
                  obtain ⟨rfl, rfl⟩ := ha
                  cases hs with
                  | slice hp hl hc hk =>
                    have hcap := hk hkl
                    subst hcap
                    obtain ⟨old', g1, g2, g3, _⟩ := loadN_sound (P := P) H.drew hp hold
                    exact grow (by omega) g2 (by simpa [Builtin.firstCells] using g1) H (.refl _ _ _) oldLen rfl
                  | slice0 =>
                    have ho : old = [] := by apply List.eq_nil_of_length_eq_zero; omega
                    subst ho
                    exact grow (old2 := []) (by omega) .nil (by simp [Builtin.firstCells, loadCells, loadCellsFrom]) H (.refl _ _ _) oldLen rfl
                · split at ha
                  · -- the old row is given up
                    rename_i hkl hown
                    simp only [Bool.and_eq_true] at hown
                    obtain ⟨hown, hcell⟩ := hown
                    subst hown
                    simp only [Option.some.injEq, Prod.mk.injEq] at ha
                    obtain ⟨rfl, rfl⟩ := ha
                    have hbl := lt_of_get hb
                    obtain ⟨Hk, Fk⟩ := H.kill hbl
                    cases hs with
                    | slice0 =>
                      have ho : old = [] := by apply List.eq_nil_of_length_eq_zero; omega
                      subst ho
                      exact grow (old2 := []) (by omega) .nil (by simp [Builtin.firstCells, loadCells, loadCellsFrom]) Hk Fk oldLen (by simp)
                    | slice hp hl hc hk =>
                      rename_i p cap
                      by_cases hroom : len + m ≤ cap
                      · -- in place
                        obtain ⟨c, tt, fz, g1, g2, g3, g4, g5⟩ := H.obj b _ p hb hp
                        obtain ⟨g6, g7⟩ := g5 rfl
                        have hcm : (len + m) * ie.size ≤ cap * ie.size := Nat.mul_le_mul_right _ hroom
                        rw [Nat.add_mul] at hcm
                        have hnl := e3.length
                        have hcell' : ∀ v ∈ new', isCell v = true := by
                          intro v hvm
                          obtain ⟨i, hi, rfl⟩ := List.getElem_of_mem hvm
                          obtain ⟨v', x1, x2⟩ := e3.get? (i := i) (v := new[i]'(by omega)) (by simp)
                          rw [List.getElem?_eq_getElem hi] at x1
                          simp only [Option.some.injEq] at x1
                          rw [x1, x2.isCell]
                          exact List.all_eq_true.1 hcell _ (by simp)
                        have hoff : p.sh + o + len * ie.size + new'.length ≤ p.en := by omega
                        obtain ⟨w', r1, r2, r3, r4, r5, r6, r7⟩ := run_storeCells (P := P) (w := w) (b := p.blk) (o := p.sh + o + len * ie.size) new' 0 w c tt fz g1 (by omega) (fun j hj hj' => g7 j (by omega) (by omega)) hcell'
                        have hrun := run_append_room' (ty := ty) (a := ⟨p.blk, p.sh + o, none⟩) (sLen := len) (sCap := cap) htu hie hu hd e1 hroom e2 (w' := w') (by rw [add_eq]; exact r1)
                        have hle := H.updLe ⟨p.blk, p.sh + o, p.en⟩
                        obtain ⟨K1, K2⟩ := H.rename (oa' := .row (old ++ new) true) (p' := ⟨p.blk, p.sh + o, p.en⟩) (w' := w') hb rfl hp rfl r4 r5 r6 r7 r3 rfl (by
                          refine ⟨_, tt, fz, r2, ?_, ?_, ?_, fun _ => ⟨?_, fun j hj hj' => g7 j (by simp at hj; omega) hj'⟩⟩
                          · simp only [List.size_toArray, List.length_append, Nat.add_zero]
                            rw [splice_length (by simp; omega)]
                            simp; omega
                          · intro i v hi
                            simp only [List.getElem?_toArray, Nat.add_zero]
                            rw [splice_get (by simp; omega)]
                            rw [List.getElem?_append] at hi
                            split at hi
                            · rename_i hio
                              rw [if_pos (by omega)]
                              -- an old cell
                              unfold loadN at hold
                              split at hold
                              · rename_i rs hrs
                                split at hold
                                · rename_i hle2
                                  simp only [Option.some.injEq] at hold; subst hold
                                  obtain ⟨own2, hb2⟩ := cells?_spec hrs
                                  rw [hb] at hb2
                                  simp only [Option.some.injEq, AObj.row.injEq] at hb2
                                  obtain ⟨rfl, rfl⟩ := hb2
                                  rw [List.getElem?_take] at hi
                                  split at hi
                                  · rw [List.getElem?_drop] at hi
                                    obtain ⟨v', y1, y2⟩ := g3 (o + i) v hi
                                    exact ⟨v', by rw [show p.sh + o + i = p.sh + (o + i) by omega]; simpa using y1, y2.mono hle⟩
                                  · simp at hi
                                · simp at hold
                              · simp at hold
                            · rename_i hio
                              have hin : i - old.length < new.length := by
                                rcases Nat.lt_or_ge (i - old.length) new.length with e | e
                                · exact e
                                · rw [List.getElem?_eq_none e] at hi; simp at hi
                              rw [if_neg (by omega), if_pos (by omega)]
                              obtain ⟨v', y1, y2⟩ := e3.get? hi
                              exact ⟨v', by rw [show p.sh + o + i - (p.sh + o + len * ie.size) = i - old.length by omega]; exact y1, y2.mono hle⟩
                          · simp; omega
                          · simp only [List.size_toArray, Nat.add_zero]; rw [splice_length (by simp; omega)]; simpa using g6)
                        refine ⟨_, _, w', hrun, ?_, K1, K2⟩
                        have := VRel.slice (ρ := upd ρ h.length ⟨p.blk, p.sh + o, p.en⟩) (b := h.length) (o := 0) (p := ⟨p.blk, p.sh + o, p.en⟩) (sz := ie.size) (len := len + m) (k := len + m + 1) (cap := cap) (upd_same _ _ _) hroom (by simp; omega) (by omega)
                        simpa using this
                      · obtain ⟨old', q1, q2, q3, _⟩ := loadN_sound (P := P) H.drew hp hold
                        exact grow (by omega) q2 (by simpa [Builtin.firstCells] using q1) Hk Fk oldLen (by simp)
                  · simp at ha
              · simp at ha
            · simp at ha
          · simp at ha
        · simp at ha
    · simp at ha
  · simp at ha
end Go.AM

/-
  THE ABSTRACT EXECUTOR: maps and clear.
-/
set_option linter.unusedSimpArgs false
set_option linter.unusedVariables false
namespace Go.AM
variable {P : Program} {G : Nat} {ρ : Rho} {h : AHeap} {w : World}

theorem mapKind_spec {t : TypeId} {d : TypeDesc} {e : TypeId} (hk : mapKind P t = some (d, e)) :
    ∃ k, P.underlying t = some (.map k e) ∧ P.underlying k = some d ∧ ((∃ q, d = .int q) ∨ d = .string ∨ d = .bool) := by
  unfold mapKind at hk
  split at hk
  · rename_i k e' hu
    split at hk <;> (try (simp at hk; done)) <;> rename_i hu2 <;> simp only [Option.some.injEq, Prod.mk.injEq] at hk <;> obtain ⟨rfl, rfl⟩ := hk
    · exact ⟨k, hu, hu2, Or.inl ⟨_, rfl⟩⟩
    · exact ⟨k, hu, hu2, Or.inr (Or.inl rfl)⟩
    · exact ⟨k, hu, hu2, Or.inr (Or.inr rfl)⟩
  · simp at hk

theorem checkKey_run {k : TypeId} {d : TypeDesc} (hu : P.underlying k = some d) (hd : (∃ q, d = .int q) ∨ d = .string ∨ d = .bool) (em : Bool) (x : Value) (w : World) :
    (Instr.checkKey em 10000 k x).run P w = .ok () w := by
  rw [show (10000 : Nat) = 9999 + 1 from rfl, Instr.checkKey]
  simp only [Sem.run_bind, run_und hu, Result.andThen_ok]
  rcases hd with ⟨q, rfl⟩ | rfl | rfl <;> simp

theorem same_rel {d : TypeDesc} {x y x' y' : Value} {b : Bool} (hx : VRel ρ x x') (hy : VRel ρ y y') (h : Instr.sameNow d x y = some b) : Instr.sameNow d x' y' = some b := by
  unfold Instr.sameNow at h
  split at h <;> (try (simp at h; done)) <;> cases hx <;> cases hy <;> exact h

theorem ba_beq (a b : ByteArray) : (a == b) = (a.data == b.data) := by cases a; cases b; rfl
theorem ba_eq {a b : ByteArray} (h : (a == b) = true) : a = b := by
  rw [ba_beq, beq_iff_eq] at h
  cases a; cases b; simp_all
theorem ba_refl (a : ByteArray) : (a == a) = true := by rw [ba_beq]; simp

theorem same_bits {d : TypeDesc} {x y : Value} (n : Nat) (h : Instr.sameNow d x y = some true) : Instr.sameBits n y x = true := by
  unfold Instr.sameNow at h
  split at h <;> (try (simp at h; done))
  · split at h
    · rename_i hk
      simp only [Option.some.injEq, beq_iff_eq] at h
      subst hk h
      cases n <;> simp [Instr.sameBits]
    · simp at h
  · simp only [Option.some.injEq] at h
    have := ba_eq h; subst this
    cases n <;> simp only [Instr.sameBits] <;> exact ba_refl _
  · simp only [Option.some.injEq, beq_iff_eq] at h
    subst h
    cases n <;> simp [Instr.sameBits]

theorem findNow_rel {d : TypeDesc} {k k' : Value} (hk : VRel ρ k k') {es : List (Value × Value)} {es' : List MapEntry} (he : ERel ρ es es') : ∀ (i : Nat) {r : Option Value}, afind d k es = some r →
    match r with
    | none => Instr.findNow d k' es' i = some none
    | some v => ∃ j v', Instr.findNow d k' es' i = some (some (i + j, v')) ∧ VRel ρ v v' := by
  induction he with
  | nil => intro i r hr; simp only [afind, Option.some.injEq] at hr; subst hr; rfl
  | cons h1 h2 _ ih =>
    intro i r hr
    rename_i ka va e es es' _
    simp only [afind] at hr
    split at hr
    · rename_i hs
      simp only [Option.some.injEq] at hr; subst hr
      exact ⟨0, e.val, by simp [Instr.findNow, same_rel hk h1 hs], h2⟩
    · rename_i hs
      have := ih (i + 1) hr
      cases r with
      | none => simpa [Instr.findNow, same_rel hk h1 hs] using this
      | some v =>
        obtain ⟨j, v', e1, e2⟩ := this
        exact ⟨j + 1, v', by simp only [Instr.findNow, same_rel hk h1 hs]; rw [e1]; congr 3; omega, e2⟩
    · simp at hr

theorem findKey_run {kt : TypeId} {d : TypeDesc} (hu : P.underlying kt = some d) {k : Value} {es : List MapEntry} {r : Option (Nat × Value)} (h : Instr.findNow d k es 0 = some r) (w : World) :
    (Instr.findKey kt k es).run P w = .ok r w := by
  simp [Instr.findKey, run_und hu, h]

theorem getObj_run {r : Nat} {es : Array MapEntry} {c : Nat} (h : w.heap[r]? = some (.map es c)) : (getObj r).run P w = .ok (.map es c) w := by
  simp [getObj, Sem.run, h]
theorem setObj_run {r : Nat} {es es2 : Array MapEntry} {c c2 : Nat} (h : w.heap[r]? = some (.map es c)) :
    (setObj r (.map es2 c2)).run P w = .ok () { w with heap := w.heap.setIfInBounds r (.map es2 c2) } := by
  simp [setObj, Sem.run, h]

theorem alookup_sound (H : HRel G ρ h w) {t : TypeId} {m k m' k' v : Value} {ok : Bool} (hm : VRel ρ m m') (hk : VRel ρ k k') (ha : alookup P h t m k ok = some v) :
    ∃ v', (Instr.lookup t m' k' ok).run P w = .ok v' w ∧ VRel ρ v v' := by
  unfold alookup at ha
  split at ha
  · rename_i d e es hd hes
    obtain ⟨kt, hu, hk1, hk2⟩ := mapKind_spec hd
    have hent : ∃ es' : Array MapEntry, ERel ρ es es'.toList ∧ ((m' = .map none ∧ es' = #[]) ∨ ∃ r clock, m' = .map (some r) ∧ w.heap[r]? = some (.map es' clock)) := by
      unfold mapEs at hes
      split at hes
      · cases hm
        simp only [Option.some.injEq] at hes; subst hes
        exact ⟨#[], .nil, Or.inl ⟨rfl, rfl⟩⟩
      · split at hes
        · rename_i r es0 hr
          simp only [Option.some.injEq] at hes; subst hes
          cases hm with
          | map hp =>
            obtain ⟨es', clock, g1, g2⟩ := H.obj _ _ _ hr hp
            exact ⟨es', g2, Or.inr ⟨_, clock, rfl, g1⟩⟩
        · simp at hes
      · simp at hes
    obtain ⟨es', he, hcase⟩ := hent
    have hf := fun r => findNow_rel (r := r) hk he 0 (d := d)
    split at ha
    · rename_i v0 _ hfa
      simp only [Option.some.injEq] at ha
      obtain ⟨j, v', e1, e2⟩ := hf _ hfa
      refine ⟨if ok then .tuple #[v', .bool true] else v', ?_, ?_⟩
      · rcases hcase with ⟨rfl, rfl⟩ | ⟨r, clock, rfl, g1⟩
        · simp [Instr.lookup, run_und hu, checkKey_run hk1 hk2, findKey_run hk1 e1]
        · simp [Instr.lookup, run_und hu, checkKey_run hk1 hk2, findKey_run hk1 e1, getObj_run g1]
      · rw [← ha]; cases ok
        · exact e2
        · exact (LRel.cons e2 (.cons (.bool _) .nil)).tuple
    · rename_i i hfa hi
      simp only [Option.some.injEq] at ha
      have e1 := hf _ hfa
      have e2 : VRel ρ i.zero i.zero := constOK_refl ρ (ti_zero hi)
      refine ⟨if ok then .tuple #[i.zero, .bool false] else i.zero, ?_, ?_⟩
      · rcases hcase with ⟨rfl, rfl⟩ | ⟨r, clock, rfl, g1⟩
        · simp [Instr.lookup, run_und hu, checkKey_run hk1 hk2, findKey_run hk1 e1, run_zero hi]
        · simp [Instr.lookup, run_und hu, checkKey_run hk1 hk2, findKey_run hk1 e1, getObj_run g1, run_zero hi]
      · rw [← ha]; cases ok
        · exact e2
        · exact (LRel.cons e2 (.cons (.bool _) .nil)).tuple
    · simp at ha
  · simp at ha

/-- A map's slot, changed. -/
theorem amap_set (H : HRel G ρ h w) {r : Nat} {p : Pl} {es es2 : List (Value × Value)} {es2' : Array MapEntry} {clock : Nat} (hb : h[r]? = some (.amap es)) (hp : ρ r = some p) (he : ERel ρ es2 es2'.toList) :
    HRel G ρ (h.set r (.amap es2)) { w with heap := w.heap.setIfInBounds p.blk (.map es2' clock) } ∧ Fr ρ h w ρ (h.set r (.amap es2)) { w with heap := w.heap.setIfInBounds p.blk (.map es2' clock) } := by
  refine H.update hb rfl hp (by simp) rfl rfl rfl ?_ rfl ⟨es2', clock, ?_, he⟩
  · intro c hc
    rw [Array.getElem?_setIfInBounds, if_neg (fun e => hc e.symm)]
  · rw [Array.getElem?_setIfInBounds, if_pos rfl, if_pos (H.lt r p hp)]

theorem ERel.push {es : List (Value × Value)} {es' : List MapEntry} (he : ERel ρ es es') {k v : Value} {e : MapEntry} (hk : VRel ρ k e.key) (hv : VRel ρ v e.val) : ERel ρ (es ++ [(k, v)]) (es' ++ [e]) := by
  induction he with
  | nil => exact .cons hk hv .nil
  | cons h1 h2 _ ih => exact .cons h1 h2 ih

theorem aupd_rel {d : TypeDesc} {k k' x x' : Value} (hk : VRel ρ k k') (hx : VRel ρ x x') {es : List (Value × Value)} {es' : List MapEntry} (he : ERel ρ es es') : ∀ (i : Nat) {r : List (Value × Value)}, aupd d k x es = some r →
    (Instr.findNow d k' es' i = some none ∧ r = es ++ [(k, x)]) ∨
    ∃ j v' e0, Instr.findNow d k' es' i = some (some (i + j, v')) ∧ es'[j]? = some e0 ∧ Instr.sameBits 10000 e0.key k' = true ∧ ERel ρ r (es'.modify j fun e => { e with key := k', val := x' }) := by
  induction he with
  | nil => intro i r hr; simp only [aupd, Option.some.injEq] at hr; subst hr; exact Or.inl ⟨rfl, rfl⟩
  | cons h1 h2 ht ih =>
    intro i r hr
    rename_i ka va e es es'
    simp only [aupd] at hr
    split at hr
    · rename_i hs
      simp only [Option.some.injEq] at hr; subst hr
      have hs' := same_rel hk h1 hs
      refine Or.inr ⟨0, e.val, e, by simp [Instr.findNow, hs'], rfl, same_bits _ hs', ?_⟩
      refine .cons ?_ hx ht
      have : k = ka := by
        unfold Instr.sameNow at hs
        split at hs <;> (try (simp at hs; done))
        · split at hs
          · rename_i hq; simp only [Option.some.injEq, beq_iff_eq] at hs; rw [hq, hs]
          · simp at hs
        · simp only [Option.some.injEq] at hs; rw [ba_eq hs]
        · simp only [Option.some.injEq, beq_iff_eq] at hs; rw [hs]
      simpa [← this] using hk
    · rename_i hs
      split at hr
      · rename_i r' hr'
        simp only [Option.some.injEq] at hr; subst hr
        have hs' := same_rel hk h1 hs
        rcases ih (i + 1) hr' with ⟨e1, e2⟩ | ⟨j, v', e0, e1, e2, e3, e4⟩
        · exact Or.inl ⟨by simpa [Instr.findNow, hs'] using e1, by simp [e2]⟩
        · exact Or.inr ⟨j + 1, v', e0, by simp only [Instr.findNow, hs']; rw [e1]; congr 3; omega, by simpa using e2, e3, .cons h1 h2 e4⟩
      · simp at hr
    · simp at hr

theorem amapUpd_sound (H : HRel G ρ h w) {t : TypeId} {m k x m' k' x' : Value} {h' : AHeap} (hm : VRel ρ m m') (hk : VRel ρ k k') (hx : VRel ρ x x') (ha : amapUpd P h t m k x = some h') :
    ∃ w', (Instr.mapUpdate t m' k' x').run P w = .ok () w' ∧ HRel G ρ h' w' ∧ Fr ρ h w ρ h' w' := by
  unfold amapUpd at ha
  split at ha
  · rename_i d e r hd
    obtain ⟨kt, hu, hk1, hk2⟩ := mapKind_spec hd
    split at ha
    · rename_i es hr
      split at ha
      · rename_i es2 hes2
        simp only [Option.some.injEq] at ha; subst ha
        cases hm with
        | map hp =>
          rename_i p
          obtain ⟨es', clock, g1, g2⟩ := H.obj _ _ _ hr hp
          rcases aupd_rel hk hx g2 0 hes2 with ⟨f1, f2⟩ | ⟨j, v', e0, f1, f2, f3, f4⟩
          · subst f2
            obtain ⟨k1, k2⟩ := amap_set H (es2 := es ++ [(k, x)]) (es2' := es'.push { key := k', val := x', born := clock }) (clock := clock + 1) hr hp (by simpa using g2.push (e := { key := k', val := x', born := clock }) hk hx)
            refine ⟨_, ?_, k1, k2⟩
            simp [Instr.mapUpdate, run_und hu, getObj_run g1, checkKey_run hk1 hk2, findKey_run hk1 f1, setObj_run g1]
          · obtain ⟨k1, k2⟩ := amap_set H (es2 := es2) (es2' := es'.modify j fun e => { e with key := k', val := x' }) (clock := clock) hr hp (by simpa using f4)
            refine ⟨_, ?_, k1, k2⟩
            rw [Nat.zero_add] at f1
            have f2' : es'[j]? = some e0 := by simpa using f2
            simp [Instr.mapUpdate, run_und hu, getObj_run g1, checkKey_run hk1 hk2, findKey_run hk1 f1, setObj_run g1, Instr.keyThatStays, f2', f3]
      · simp at ha
    · simp at ha
  · simp at ha

theorem makeMap_sound (H : HRel G ρ h w) (t : TypeId) :
    OutV G P ρ h w (Instr.makeMap t none) (.map (some h.length)) (h ++ [.amap []]) := by
  obtain ⟨k1, k2⟩ := H.alloc (oc := .map #[] 0) (oa := .amap []) (sh := 0) (en := 0) ⟨#[], 0, heap_push_new w _, .nil⟩
  refine ⟨_, .map (some w.heap.size), _, ?_, ?_, k1, k2⟩
  · simp [Instr.makeMap]
  · exact VRel.map (ρ := upd ρ h.length ⟨w.heap.size, 0, 0⟩) (p := ⟨w.heap.size, 0, 0⟩) (upd_same _ _ _)

theorem aclear_sound (H : HRel G ρ h w) {ts : Array TypeId} {t ty : TypeId} (ht : ts[0]? = some t) {x x' : Value} {h' : AHeap} (hx : VRel ρ x x') (ha : aclear P h t x = some h') :
    ∃ w', (Builtin.clear_ ts ty #[x']).run P w = .ok (.tuple #[]) w' ∧ HRel G ρ h' w' ∧ Fr ρ h w ρ h' w' := by
  unfold aclear at ha
  split at ha
  · rename_i e hu
    simp only [Option.some.injEq] at ha; subst ha
    cases hx
    exact ⟨w, by simp [Builtin.clear_, ht, run_und hu], H, .refl _ _ _⟩
  · rename_i e b o sz n k hu
    split at ha
    · rename_i i hi
      split at ha
      · rename_i hn
        simp only [Option.some.injEq] at ha; subst ha hn
        cases hx <;> exact ⟨w, by simp [Builtin.clear_, ht, run_und hu], H, .refl _ _ _⟩
      · rename_i hn
        split at ha
        · rename_i hc
          obtain ⟨hsz, hpos⟩ := hc
          have hzc := ti_size hi
          have hzr : LRel ρ i.zero.cells.toList i.zero.cells.toList := (constOK_refl ρ (ti_zero hi)).cells
          cases hx with
          | slice hp hl hcc hxx =>
            rename_i p cap
            obtain ⟨w', r1, r2, r3⟩ := storeN_sound (P := P) H hp (zerosOf_rel hzr n) ha
            refine ⟨w', ?_, r2, r3⟩
            have ez : (Builtin.zeroCells i.zero.cells n).toList = zerosOf i.zero.cells.toList n := zeros_eq i.zero.cells (by omega) n
            obtain ⟨n, rfl⟩ : ∃ k, n = k + 1 := ⟨n - 1, by omega⟩
            simp [Builtin.clear_, ht, run_und hu, run_zero hi, ez, r1]
          | slice0 => exact absurd rfl hn
        · simp at ha
    · simp at ha
  · rename_i hu
    simp only [Option.some.injEq] at ha; subst ha
    cases hx
    exact ⟨w, by simp [Builtin.clear_, ht, run_und hu], H, .refl _ _ _⟩
  · rename_i r hu
    split at ha
    · rename_i es hr
      simp only [Option.some.injEq] at ha; subst ha
      cases hx with
      | map hp =>
        obtain ⟨es', clock, g1, g2⟩ := H.obj _ _ _ hr hp
        obtain ⟨k1, k2⟩ := amap_set H (es2 := []) (es2' := #[]) (clock := clock) hr hp .nil
        refine ⟨_, ?_, k1, k2⟩
        simp [Builtin.clear_, ht, run_und hu, getObj_run g1, setObj_run g1]
    · simp at ha
  · simp at ha
end Go.AM
