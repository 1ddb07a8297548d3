/-
  TopRounds' plain functions: periods of words of bits, and tides that come later; what the kernel checks of a run.
-/
import Derived.Test.YtpbmpdocgplhpaaGreatDoorRctr
import Derived.Test.YtpbmpdocgplhpaaGreatDoorNc
import Derived.Test.YtpbmpdocgplhpaaGreatDoorTid
set_option linter.unusedSimpArgs false
set_option linter.unusedVariables false
set_option maxRecDepth 100000
namespace Go.Proofs.YtpbmpdocgplhpaaGreatDoor
open Go Go.AM Go.AMT

def bl (l : List Bool) : List UInt8 := l.map bitB
def wl (l : List Bool) : List UInt8 := l.map fun x => bif x then 98 else 97
def bitsN : Nat → List (List Bool)
  | 0 => [[]]
  | n + 1 => (bitsN n).flatMap fun l => [false :: l, true :: l]
theorem bitsN_all : ∀ l : List Bool, l ∈ bitsN l.length := by
  intro l
  induction l with
  | nil => simp [bitsN]
  | cons x l ih =>
    simp only [List.length_cons, bitsN, List.mem_flatMap]
    exact ⟨l, ih, by cases x <;> simp⟩
def eqB : List Bool → List Bool → Bool
  | [], [] => true
  | a :: l, b :: m => (a == b) && eqB l m
  | _, _ => false
def perGo (l : List Bool) : Nat → Nat → Nat
  | 0, d => d
  | t + 1, d => bif eqB (l.drop d ++ l.take d) l then d else perGo l t (d + 1)
/-- The least turn that leads back. -/
def perF (l : List Bool) : Nat := perGo l (l.length - 1) 1
def roundF (l : List Bool) : List Bool := l.take (perF l)
def toldF (r : List Bool) (k i : Nat) : Bool := Nat.ble k i && r.getD ((i - k) % r.length) false
def fromF (r : List Bool) (k : Nat) : Nat → Nat
  | 0 => 0
  | f + 1 => bif toldF r k (f + r.length) then f + 1 else fromF r k f
def laterA (r : List Bool) (k : Nat) : List Bool := List.replicate (fromF r k k) false
def laterB (r : List Bool) (k : Nat) : List Bool := (List.range r.length).map fun j => toldF r k (fromF r k k + j)

def S (l : List UInt8) : ByteArray := ⟨l.toArray⟩
def unA (z o : UInt8) : List UInt8 → Option (List Bool)
  | [] => some []
  | c :: r => match unA z o r with
    | none => none
    | some l => if c = z then some (false :: l) else if c = o then some (true :: l) else none
theorem unA_spec {z o : UInt8} : ∀ {s : List UInt8} {l : List Bool}, unA z o s = some l → s = l.map fun x => bif x then o else z := by
  intro s
  induction s with
  | nil => intro l h; simp only [unA, Option.some.injEq] at h; subst h; rfl
  | cons c s ih =>
    intro l h
    simp only [unA] at h
    split at h
    · simp at h
    · rename_i l2 hl
      have e := ih hl
      split at h
      · rename_i hc
        simp only [Option.some.injEq] at h; subst h
        rw [e, hc]; rfl
      · split at h
        · rename_i hc
          simp only [Option.some.injEq] at h; subst h
          rw [e, hc]; rfl
        · simp at h
theorem unA_of {z o : UInt8} (hz : z ≠ o) : ∀ l : List Bool, unA z o (l.map fun x => bif x then o else z) = some l := by
  intro l
  induction l with
  | nil => rfl
  | cons x l ih =>
    simp only [List.map_cons, unA, ih]
    cases x with
    | true => rw [cond_true, if_neg (fun e => hz e.symm), if_pos rfl]
    | false => rw [cond_false, if_pos rfl]
theorem S_of (s : ByteArray) : S s.data.toList = s := by cases s; rfl

def p7 : List Value → Option Value
  | [.string s] => match unA 97 98 s.data.toList with
    | some l => if 1 ≤ l.length ∧ l.length ≤ 5 then some (.tuple #[.bool (Nat.beq (perF l) l.length), .int .i64 0]) else none
    | none => none
  | _ => none
def p9 : List Value → Option Value
  | [.agg xs] => match xs.toList with
    | [.string a, .string b] => if a.data.toList = [] then (match unA 48 49 b.data.toList with
      | some l => if 1 ≤ l.length ∧ l.length ≤ 5 then some (.tuple #[.agg #[.string (S []), .string (S (bl (roundF l)))], .int .i64 0]) else none
      | none => none) else none
    | _ => none
  | _ => none
def p10 : List Value → Option Value
  | [.agg xs, .int .i64 (.ofNat k)] => match xs.toList with
    | [.string a, .string b] => if a.data.toList = [] then (match unA 48 49 b.data.toList with
      | some l => if 1 ≤ l.length ∧ l.length ≤ 5 ∧ perF l = l.length ∧ k < 5 then some (.tuple #[.agg #[.string (S (bl (laterA l k))), .string (S (bl (laterB l k)))], .int .i64 0]) else none
      | none => none) else none
    | _ => none
  | _ => none
def p5 : List Value → Option Value
  | [] => some (.bool true)
  | _ => none
def free (p : List Value → Option Value) : List Value → AHeap → Option (Value × AHeap) := fun args h => match p args with
  | some v => some (v, h)
  | none => none
def AXR2 : Ext := fun f => bif Nat.beq f 5 then some (free p5) else bif Nat.beq f 7 then some (free p7) else bif Nat.beq f 9 then some (free p9) else bif Nat.beq f 10 then some (free p10) else AXR f

noncomputable def freeT (p : List Value → Option Value) : List Value → TH → Option (Value × TH) := fun args h => match p args with
  | some v => some (v, h)
  | none => none
noncomputable def AXR2T : ExtT := fun f => bif Nat.beq f 5 then some (freeT p5) else bif Nat.beq f 7 then some (freeT p7) else bif Nat.beq f 9 then some (freeT p9) else bif Nat.beq f 10 then some (freeT p10) else AXRT f
theorem freeT_t (p : List Value → Option Value) (args : List Value) (th : TH) (v : Value) (th' : TH) (h : freeT p args th = some (v, th')) : free p args th.toL = some (v, th'.toL) := by
  unfold freeT at h
  unfold free
  split at h
  · rename_i v0 hv
    simp only [Option.some.injEq, Prod.mk.injEq] at h
    obtain ⟨rfl, rfl⟩ := h
    rfl
  · simp at h
theorem AXR2T_ok : ExtTOK AXR2T AXR2 := by
  intro f
  unfold AXR2T AXR2
  cases h5 : Nat.beq f 5 with
  | true => exact ⟨free p5, rfl, fun args th v th' h => freeT_t _ _ _ _ _ h⟩
  | false =>
  cases h7 : Nat.beq f 7 with
  | true => exact ⟨free p7, rfl, fun args th v th' h => freeT_t _ _ _ _ _ h⟩
  | false =>
  cases h9 : Nat.beq f 9 with
  | true => exact ⟨free p9, rfl, fun args th v th' h => freeT_t _ _ _ _ _ h⟩
  | false =>
  cases h10 : Nat.beq f 10 with
  | true => exact ⟨free p10, rfl, fun args th v th' h => freeT_t _ _ _ _ _ h⟩
  | false => exact AXRT_ok f
def isStr (v : Value) (l : List UInt8) : Bool := match v with | .string s => s.data.toList == l | _ => false
def isTide (v : Value) (a b : List UInt8) : Bool := match v with
  | .agg xs => (match xs.toList with | [x, y] => isStr x a && isStr y b | _ => false)
  | _ => false
def isZero (v : Value) : Bool := match v with | .int .i64 (.ofNat n) => Nat.beq n 0 | _ => false
noncomputable def is7 (l : List Bool) : Bool := match acallT Tryz.prog AXRT nc 300 (.fn 7) [.string ⟨(wl l).toArray⟩] (TH.ofL H0) with
  | some (.tuple xs, _) => (match xs.toList with | [.bool b, n] => (b == Nat.beq (perF l) l.length) && isZero n | _ => false)
  | _ => false
noncomputable def is8 (l : List Bool) : Bool := match acallT Tryz.prog AXR2T nc 300 (.fn 8) [.string ⟨(wl l).toArray⟩] (TH.ofL H0) with
  | some (.tuple xs, _) => (match xs.toList with | [.slice _ n _, z] => Nat.beq n (perF l) && isZero z | _ => false)
  | _ => false
noncomputable def is9 (l : List Bool) : Bool := match acallT Tryz.prog AXRT nc 300 (.fn 9) [.agg #[.string ⟨#[]⟩, .string ⟨(bl l).toArray⟩]] (TH.ofL H0) with
  | some (.tuple xs, _) => (match xs.toList with | [t, z] => isTide t [] (bl (roundF l)) && isZero z | _ => false)
  | _ => false
noncomputable def is10 (r : List Bool) (k : Nat) : Bool := match acallT Tryz.prog AXRT nc 300 (.fn 10) [.agg #[.string ⟨#[]⟩, .string ⟨(bl r).toArray⟩], .int .i64 (.ofNat k)] (TH.ofL H0) with
  | some (.tuple xs, _) => (match xs.toList with | [t, z] => isTide t (bl (laterA r k)) (bl (laterB r k)) && isZero z | _ => false)
  | _ => false
noncomputable def all10 (r : List Bool) : Bool := bif Nat.beq (perF r) r.length then (List.range 5).all (is10 r) else true
def some5 : List (List Bool) := bitsN 1 ++ (bitsN 2 ++ (bitsN 3 ++ bitsN 4))
end Go.Proofs.YtpbmpdocgplhpaaGreatDoor
