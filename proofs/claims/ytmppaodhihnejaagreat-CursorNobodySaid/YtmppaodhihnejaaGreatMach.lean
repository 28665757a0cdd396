/- The abstract machine: Go's code run over typed data in the place of memory. Definitions alone. -/
import Derived.WalkKit
import Derived.Below
import Derived.Laws.AppendOwn
import Derived.Laws.OwnMore
import Derived.Lib.AppendStr
set_option linter.unusedVariables false
namespace Go.Proofs.YtmppaodhihnejaaGreat.M
open Go

/-! ### Types of data, cells -/
inductive Ty where
  | int (k : IntKind)
  | bool
  | str
  | sl (e : Ty)
  | nm (n : Nat)
  deriving DecidableEq

def Ty.den (S : Nat → Type) : Ty → Type
  | .int _ => Int
  | .bool => Bool
  | .str => List UInt8
  | .sl e => List (Ty.den S e)
  | .nm n => S n

def Ty.single : Ty → Bool
  | .nm _ => false
  | _ => true

structure Cell (S : Nat → Type) where
  τ : Ty
  x : Ty.den S τ

def HL (S : Nat → Type) : List Ty → Type
  | [] => Unit
  | t :: ts => Ty.den S t × HL S ts

def HL.cells {S : Nat → Type} : (ts : List Ty) → HL S ts → List (Cell S)
  | [], _ => []
  | t :: ts, (x, r) => ⟨t, x⟩ :: HL.cells ts r

def Cell.as {S : Nat → Type} (τ : Ty) (c : Cell S) : Option (Ty.den S τ) := if h : c.τ = τ then some (h ▸ c.x) else none

def HL.pack {S : Nat → Type} : (ts : List Ty) → List (Cell S) → Option (HL S ts)
  | [], [] => some ()
  | t :: ts, c :: cs =>
    match c.as t with
    | some x => match HL.pack ts cs with
      | some r => some (x, r)
      | none => none
    | none => none
  | _, _ => none

/-- The program's named structs, cell by cell. -/
structure Uni where
  S : Nat → Type
  tys : Nat → List Ty
  mkS : ∀ n, HL S (tys n) → S n
  unS : ∀ n, S n → HL S (tys n)
  un_mk : ∀ n h, unS n (mkS n h) = h
  mk_un : ∀ n x, mkS n (unS n x) = x
  single : ∀ n t, t ∈ tys n → t.single = true
  some_ : ∀ n, 0 < (tys n).length

abbrev Uni.C (u : Uni) := Cell u.S
abbrev Uni.D (u : Uni) (τ : Ty) := Ty.den u.S τ

def flat (u : Uni) : (τ : Ty) → u.D τ → List u.C
  | .nm n, x => HL.cells (u.tys n) (u.unS n x)
  | .int k, x => [⟨.int k, x⟩]
  | .bool, x => [⟨.bool, x⟩]
  | .str, x => [⟨.str, x⟩]
  | .sl e, x => [⟨.sl e, x⟩]

def pack (u : Uni) : (τ : Ty) → List u.C → Option (u.D τ)
  | .nm n, cs => match HL.pack (u.tys n) cs with
    | some h => some (u.mkS n h)
    | none => none
  | .int k, [c] => c.as (.int k)
  | .bool, [c] => c.as .bool
  | .str, [c] => c.as .str
  | .sl e, [c] => c.as (.sl e)
  | _, _ => none

def sz (u : Uni) : Ty → Nat
  | .nm n => (u.tys n).length
  | _ => 1

/-! ### Values of slots, objects -/
inductive AV0 (u : Uni) where
  | c (x : u.C)
  | ptr (k n : Nat)
  | raw (v : Value)

inductive AV (u : Uni) where
  | c (x : u.C)
  | kl (τ : Ty) (xs : List (u.D τ))
  | kn
  | ptr (k n : Nat)
  | rp (τ : Ty) (x : u.D τ) (off : Nat)
  | ep (k s i off : Nat)
  | own (k : Nat)
  | view (k s lo len : Nat) (clip : Bool)
  | map (k : Nat)
  | it (k : Nat)
  | raw (v : Value)
  | fn (f : Fn) (caps : List (AV0 u))
  | dead

def AV0.av {u : Uni} : AV0 u → AV u
  | .c x => .c x
  | .ptr k n => .ptr k n
  | .raw v => .raw v

def AV.av0 {u : Uni} : AV u → Option (AV0 u)
  | .c x => some (.c x)
  | .ptr k n => some (.ptr k n)
  | .raw v => some (.raw v)
  | _ => none

inductive SV (u : Uni) where
  | v (a : AV u)
  | agg (cs : List (AV u))

inductive Slot (u : Uni) where
  | sv (x : SV u)
  | tup (xs : List (SV u))
  | und
  | dead

inductive Ob (u : Uni) where
  | fresh
  | dead
  | cell (a : AV u)
  | row (e : TypeId) (τ : Ty) (xs : List (u.D τ))
  | frz (τ : Ty) (xs : List (u.D τ))
  | map (kt vt : Ty) (es : List (u.D kt × u.D vt))
  | sit (s : List UInt8) (pos : Nat)

structure St (u : Uni) where
  sl : Nat → Slot u
  ob : Nat → Ob u

/-- A state told slot by slot, object by object. -/
abbrev St0 (u : Uni) := List (Nat × SV u) × List (Nat × Ob u)
def upd {α : Type} (f : Nat → α) (k : Nat) (v : α) : Nat → α := fun i => bif Nat.beq i k then v else f i
def upds {α : Type} (f : Nat → α) : List (Nat × α) → Nat → α
  | [] => f
  | (k, v) :: r => upds (upd f k v) r
def St.set {u : Uni} (σ : St u) (d : Nat) (v : Slot u) : St u := { σ with sl := upd σ.sl d v }
def St.put {u : Uni} (σ : St u) (d : Option Nat) (v : Slot u) : St u :=
  match d with
  | some d => σ.set d v
  | none => σ
def St.obs {u : Uni} (σ : St u) (l : List (Nat × Ob u)) : St u := { σ with ob := upds σ.ob l }

/-! ### Types of the program -/
inductive TK where
  | int (k : IntKind)
  | bool
  | str
  | sl (e : TypeId)
  | st (fs : List (Nat × Nat × Bool))
  | arr (len : Nat) (e : TypeId)
  | ptr (e : TypeId)
  | map (k e : TypeId)
  | fn

structure TI (u : Uni) where
  kind : TK
  agg : Bool
  size : Nat
  bytes : Nat
  zero : List (AV u)
  den : Option Ty

/-! ### Small words in which the answers are told -/
section
variable {R : Type}
def ck (b : Bool) (k : Option R) : Option R := match b with
  | true => k
  | false => none
def gi {α : Type} (xs : List α) (i : Int) (k : α → Option R) : Option R :=
  match (if 0 ≤ i then xs[i.toNat]? else none) with
  | some x => k x
  | none => none
end
def bytesOf (l : List Int) : List UInt8 := l.map fun n => UInt8.ofNat n.toNat
def numsOf (l : List UInt8) : List Int := l.map fun b => (b.toNat : Int)
def roomOf : Nat := 140737488355328

section
variable {u : Uni} {R : Type}

def cInt (k : IntKind) (n : Int) : AV u := .c ⟨.int k, n⟩
def cBool (b : Bool) : AV u := .c ⟨.bool, b⟩
def cStr (s : List UInt8) : AV u := .c ⟨.str, s⟩
def one (a : AV u) : Slot u := .sv (.v a)

/-- How long a text may be. -/
def strMax : Nat := 9223372036854775807
def constA : Value → AV u
  | .int k n => cInt k n
  | .bool b => cBool b
  | .string s => bif Nat.ble s.data.toList.length strMax then cStr s.data.toList else .raw (.string s)
  | .slice none 0 0 => .kn
  | v => .raw v
def constAs : List Value → Option (List (AV u))
  | [] => some []
  | .agg _ :: _ => none
  | .tuple _ :: _ => none
  | v :: r => match constAs r with
    | some l => some (constA v :: l)
    | none => none
def constV : Value → Slot u
  | .agg cs => match constAs cs.toList with
    | some l => .sv (.agg l)
    | none => .dead
  | .tuple _ => .dead
  | v => one (constA v)

def St.ev (σ : St u) : Operand → Slot u
  | .tmp t => σ.sl t
  | .const v => constV v
  | .global g => one (.raw (.pointer (some ⟨g, 0, none⟩)))
  | .func f => one (.raw (.func (.func f) #[] #[]))

def SV.cells : SV u → List (AV u)
  | .v a => [a]
  | .agg cs => cs

/-! ### Reading what a slice holds -/
def asL (τ τ' : Ty) (xs : List (u.D τ')) : Option (List (u.D τ)) := Cell.as (S := u.S) (.sl τ) ⟨.sl τ', xs⟩
def obL (τ : Ty) : Ob u → Option (List (u.D τ))
  | .row _ t xs => asL τ t xs
  | .frz t xs => asL τ t xs
  | _ => none
def toL (lk : Nat → Ob u) (τ : Ty) : AV u → Option (List (u.D τ))
  | .c x => x.as (.sl τ)
  | .kl t xs => asL τ t xs
  | .kn => some []
  | .own k => obL τ (lk k)
  | .view k s lo len _ => bif Nat.beq s (sz u τ) then (obL τ (lk k)).map fun xs => (xs.drop lo).take len else none
  | _ => none
def obLen : Ob u → Option Nat
  | .row _ _ xs => some xs.length
  | .frz _ xs => some xs.length
  | _ => none
def obLenM : Ob u → Option Nat
  | .map _ _ es => some es.length
  | _ => none
def lenA (lk : Nat → Ob u) (t : TK) (a : AV u) : Option Nat :=
  match t with
  | .str => match a with
    | .c ⟨.str, s⟩ => some s.length
    | _ => none
  | .sl _ => match a with
    | .c ⟨.sl _, xs⟩ => some xs.length
    | .kl _ xs => some xs.length
    | .kn => some 0
    | .own k => obLen (lk k)
    | .view _ _ _ len _ => some len
    | _ => none
  | .map _ _ => match a with
    | .map k => obLenM (lk k)
    | .raw (.map none) => some 0
    | _ => none
  | _ => none

/-! ### Shapes, and how a value is brought to one -/
inductive Sh where
  | typ (τ : Ty)
  | own (e : TypeId) (τ : Ty) (k : Nat)
  | any

/-- What is stored for good: a slice of the call's own is frozen. -/
def frzOb : Ob u → Ob u
  | .row _ τ xs => .frz τ xs
  | o => o
def frzUps (lk : Nat → Ob u) : AV u → List (Nat × Ob u)
  | .own k => match lk k with
    | .row _ τ xs => [(k, .frz τ xs)]
    | _ => []
  | .view k _ _ _ _ => match lk k with
    | .row _ τ xs => [(k, .frz τ xs)]
    | _ => []
  | _ => []
def toC (lk : Nat → Ob u) : Ty → AV u → Option u.C
  | .sl e, a => (toL lk e a).map fun xs => ⟨.sl e, xs⟩
  | τ, .c x => (x.as τ).map fun y => ⟨τ, y⟩
  | _, _ => none
def coerce (lk : Nat → Ob u) : Sh → AV u → Option (AV u × List (Nat × Ob u))
  | .typ τ, a => match toC lk τ a with
    | some c => some (.c c, frzUps lk a)
    | none => none
  | .own e τ t, .own k => match lk k with
    | .row e' τ' xs => bif Nat.beq e' e && decide (τ' = τ) then
        (bif Nat.beq k t then some (.own k, []) else match lk t with
          | .fresh => some (.own t, [(k, .dead), (t, .row e' τ' xs)])
          | _ => none)
        else none
    | _ => none
  | .own e τ t, .kn => match lk t with
    | .fresh => some (.own t, [(t, .row e τ [])])
    | _ => none
  | .own _ _ _, _ => none
  | .any, a => some (a, [])
def coerces (lk : Nat → Ob u) : List Sh → List (AV u) → Option (List (AV u) × List (Nat × Ob u))
  | [], [] => some ([], [])
  | s :: ss, a :: as => match coerce lk s a with
    | some (b, us) => match coerces (upds lk us) ss as with
      | some (bs, vs) => some (b :: bs, us ++ vs)
      | none => none
    | none => none
  | _, _ => none
/-- The cells of an element of type τ, brought to data. -/
def toData (lk : Nat → Ob u) : List Ty → List (AV u) → Option (List u.C × List (Nat × Ob u))
  | [], [] => some ([], [])
  | t :: ts, a :: as => match toC lk t a with
    | some c => match toData (upds lk (frzUps lk a)) ts as with
      | some (cs, vs) => some (c :: cs, frzUps lk a ++ vs)
      | none => none
    | none => none
  | _, _ => none
def tysOf (u : Uni) : Ty → List Ty
  | .nm n => u.tys n
  | τ => [τ]
def toElem (lk : Nat → Ob u) (τ : Ty) (as : List (AV u)) : Option (u.D τ × List (Nat × Ob u)) :=
  match toData lk (tysOf u τ) as with
  | some (cs, vs) => match pack u τ cs with
    | some x => some (x, vs)
    | none => none
  | none => none

/-! ### The objects that a value leads to; names anew -/
def refs0 : AV0 u → List Nat
  | .ptr k n => List.range' k n
  | _ => []
def refs : AV u → List Nat
  | .ptr k n => List.range' k n
  | .ep k _ _ _ => [k]
  | .own k => [k]
  | .view k _ _ _ _ => [k]
  | .map k => [k]
  | .it k => [k]
  | .fn _ caps => caps.flatMap refs0
  | _ => []
def obRefs : Ob u → List Nat
  | .cell a => refs a
  | _ => []
def memN (k : Nat) : List Nat → Bool
  | [] => false
  | x :: r => Nat.beq k x || memN k r
def allIn (l : List Nat) : List Nat → Bool
  | [] => true
  | k :: r => memN k l && allIn l r
def reach (lk : Nat → Ob u) : Nat → List Nat → List Nat → Option (List Nat)
  | _, [], acc => some acc
  | 0, _ :: _, _ => none
  | f + 1, k :: todo, acc => bif memN k acc then reach lk f todo acc else reach lk f (todo ++ obRefs (lk k)) (acc ++ [k])
def posN (k : Nat) : List Nat → Option Nat
  | [] => none
  | x :: r => bif Nat.beq k x then some 0 else (posN k r).map (· + 1)
def nthN : List Nat → Nat → Option Nat
  | [], _ => none
  | x :: _, 0 => some x
  | _ :: r, n + 1 => nthN r n
/-- A renaming of objects: partial. -/
abbrev Ren := Nat → Option Nat
def renTo (ρ : Ren) (k p : Nat) : Nat → Bool
  | 0 => true
  | n + 1 => (match ρ (k + n) with
    | some q => Nat.beq q (p + n)
    | none => false) && renTo ρ k p n
def renPtr (ρ : Ren) (k n : Nat) : Option Nat :=
  match ρ k with
  | some p => bif renTo ρ k p n then some p else none
  | none => none
def ren0 (ρ : Ren) : AV0 u → Option (AV0 u)
  | .c x => some (.c x)
  | .ptr k n => (renPtr ρ k n).map fun p => .ptr p n
  | .raw v => some (.raw v)
def ren0s (ρ : Ren) : List (AV0 u) → Option (List (AV0 u))
  | [] => some []
  | a :: r => match ren0 ρ a with
    | some b => match ren0s ρ r with
      | some bs => some (b :: bs)
      | none => none
    | none => none
def ren (ρ : Ren) : AV u → Option (AV u)
  | .ptr k n => (renPtr ρ k n).map fun p => .ptr p n
  | .ep k s i o => (ρ k).map fun p => .ep p s i o
  | .own k => (ρ k).map .own
  | .view k s lo len c => (ρ k).map fun p => .view p s lo len c
  | .map k => (ρ k).map .map
  | .it k => (ρ k).map .it
  | .fn f caps => (ren0s ρ caps).map (.fn f)
  | a => some a
def renL (ρ : Ren) : List (AV u) → Option (List (AV u))
  | [] => some []
  | a :: r => match ren ρ a with
    | some b => match renL ρ r with
      | some bs => some (b :: bs)
      | none => none
    | none => none
def renS (ρ : Ren) : SV u → Option (SV u)
  | .v a => (ren ρ a).map .v
  | .agg cs => (renL ρ cs).map .agg
def renSs (ρ : Ren) : List (SV u) → Option (List (SV u))
  | [] => some []
  | a :: r => match renS ρ a with
    | some b => match renSs ρ r with
      | some bs => some (b :: bs)
      | none => none
    | none => none
def renOb (ρ : Ren) : Ob u → Option (Ob u)
  | .cell a => (ren ρ a).map .cell
  | o => some o
def renObs (ρ : Ren) (lk : Nat → Ob u) : List Nat → Option (List (Ob u))
  | [] => some []
  | k :: r => match renOb ρ (lk k) with
    | some b => match renObs ρ lk r with
      | some bs => some (b :: bs)
      | none => none
    | none => none

/-! ### One operation: its answer (and what becomes of objects), handed on -/
abbrev Kt (u : Uni) (R : Type) := Slot u → List (Nat × Ob u) → Option R

def bInt (op : BinOp) (k : IntKind) (a b : Int) (kk : AV u → Option R) : Option R :=
  match op with
  | .add => kk (cInt k (k.wrap (a + b)))
  | .sub => kk (cInt k (k.wrap (a - b)))
  | .mul => kk (cInt k (k.wrap (a * b)))
  | .quo => ck (!(b == 0)) (kk (cInt k (k.wrap (a.tdiv b))))
  | .rem => ck (!(b == 0)) (kk (cInt k (a.tmod b)))
  | .and => kk (cInt k (k.wrap ((BitVec.ofInt k.bits a &&& BitVec.ofInt k.bits b).toNat)))
  | .or => kk (cInt k (k.wrap ((BitVec.ofInt k.bits a ||| BitVec.ofInt k.bits b).toNat)))
  | .xor => kk (cInt k (k.wrap ((BitVec.ofInt k.bits a ^^^ BitVec.ofInt k.bits b).toNat)))
  | .andNot => kk (cInt k (k.wrap ((BitVec.ofInt k.bits a &&& ~~~(BitVec.ofInt k.bits b)).toNat)))
  | .eql => kk (cBool (a == b))
  | .neq => kk (cBool (a != b))
  | .lss => kk (cBool (a < b))
  | .leq => kk (cBool (a ≤ b))
  | .gtr => kk (cBool (a > b))
  | .geq => kk (cBool (a ≥ b))
  | _ => none
def bShift (op : BinOp) (k : IntKind) (a b : Int) (kk : AV u → Option R) : Option R :=
  match op with
  | .shl => ck (decide (0 ≤ b)) (kk (cInt k (k.wrap (a * 2 ^ (min b.toNat k.bits)))))
  | .shr => ck (decide (0 ≤ b)) (kk (cInt k (a.fdiv (2 ^ (min b.toNat k.bits)))))
  | _ => none
def bStr (op : BinOp) (a b : List UInt8) (kk : AV u → Option R) : Option R :=
  match op with
  | .add => ck (decide (a.length + b.length ≤ 4611686018427387904)) (kk (cStr (a ++ b)))
  | .eql => kk (cBool (a == b))
  | .neq => kk (cBool (!(a == b)))
  | .lss => kk (cBool (Op.bytesLess a b))
  | .leq => kk (cBool (Op.bytesLess a b || a == b))
  | .gtr => kk (cBool (!(Op.bytesLess a b || a == b)))
  | .geq => kk (cBool (!(Op.bytesLess a b)))
  | _ => none
def bBool (op : BinOp) (a b : Bool) (kk : AV u → Option R) : Option R :=
  match op with
  | .eql => kk (cBool (a == b))
  | .neq => kk (cBool (!(a == b)))
  | _ => none
def kindEq : IntKind → IntKind → Bool := fun a b => decide (a = b)
/-- Is a value nil? Of pointers, slices, maps, functions. -/
def nilA (t : TK) : AV u → Option Bool
  | .raw (.pointer none) => match t with | .ptr _ => some true | _ => none
  | .ptr _ _ => match t with | .ptr _ => some false | _ => none
  | .raw .nilFunc => match t with | .fn => some true | _ => none
  | .raw (.func _ _ _) => match t with | .fn => some false | _ => none
  | .fn _ _ => match t with | .fn => some false | _ => none
  | .raw (.map none) => match t with | .map _ _ => some true | _ => none
  | .map _ => match t with | .map _ _ => some false | _ => none
  | _ => none
def isNil : AV u → Bool
  | .raw (.pointer none) => true
  | .raw .nilFunc => true
  | .raw (.map none) => true
  | _ => false
def bOp (op : BinOp) (t : TK) (a b : AV u) (kk : AV u → Option R) : Option R :=
  match a, b with
  | .c ⟨.int k, x⟩, .c ⟨.int k', y⟩ =>
    (match op with
    | .shl => bShift op k x y kk
    | .shr => bShift op k x y kk
    | _ => bif kindEq k k' then bInt op k x y kk else none)
  | .c ⟨.str, x⟩, .c ⟨.str, y⟩ => bStr op x y kk
  | .c ⟨.bool, x⟩, .c ⟨.bool, y⟩ => match t with
    | .bool => bBool op x y kk
    | _ => none
  | a, b => bif isNil a || isNil b then
      (match nilA t a, nilA t b with
      | some p, some q => match op with
        | .eql => kk (cBool (p && q))
        | .neq => kk (cBool (!(p && q)))
        | _ => none
      | _, _ => none) else none

def uOp (op : UnOp) (a : AV u) (kk : AV u → Option R) : Option R :=
  match op, a with
  | .not, .c ⟨.bool, b⟩ => kk (cBool (!b))
  | .neg, .c ⟨.int k, n⟩ => bInt .sub k 0 n kk
  | .xor, .c ⟨.int k, n⟩ => bInt .xor k (if k.signed then -1 else k.max) n kk
  | _, _ => none

def conv (lk : Nat → Ob u) (s d : TK) (eu8 : Bool) (a : AV u) (kk : AV u → Option R) : Option R :=
  match d with
  | .int k => match a with
    | .c ⟨.int _, n⟩ => kk (cInt k (k.wrap n))
    | _ => none
  | .str => match s with
    | .str => match a with
      | .c ⟨.str, x⟩ => kk (cStr x)
      | _ => none
    | .sl _ => bif eu8 then (match toL lk (.int .u8) a with
      | some xs => kk (cStr (bytesOf xs))
      | none => none) else none
    | _ => none
  | .sl _ => match s with
    | .str => match a with
      | .c ⟨.str, x⟩ => bif eu8 then ck (decide (x.length ≤ roomOf)) (kk (.c ⟨.sl (.int .u8), numsOf x⟩)) else none
      | _ => none
    | _ => none
  | _ => none

/-- A bound of a slice expression. -/
def bnd : Slot u → Option Int
  | .sv (.v (.c ⟨.int _, n⟩)) => some n
  | _ => none
def bndO (ev : Operand → Slot u) : Option Operand → Option (Option Int)
  | none => some none
  | some o => match bnd (ev o) with
    | some n => some (some n)
    | none => none
def inB (l h n : Int) : Bool := decide (0 ≤ l) && decide (l ≤ h) && decide (h ≤ n)
/-- The part of a list that a slice expression takes. -/
def cut {α : Type} (lo hi : Option Int) (xs : List α) : List α :=
  match lo, hi with
  | none, none => xs
  | some l, none => xs.drop l.toNat
  | none, some h => xs.take h.toNat
  | some l, some h => (xs.take h.toNat).drop l.toNat
def loOf (lo : Option Int) : Int := match lo with | some l => l | none => 0
def hiOf (hi : Option Int) (n : Int) : Int := match hi with | some h => h | none => n
def zk {R : Type} (h : Int) (a b : Option R) : Option R := match h with
  | .ofNat 0 => a
  | _ => b
/-- How far a part of a row may be taken. -/
def roomV (o : Option Nat) (l n : Nat) (c : Bool) : Nat := match o, c with
  | some m, false => max n (m - l)
  | _, _ => n
def mx3 {R : Type} (l h m n : Int) (a b : Option R) : Option R := cond (decide (h = m)) (ck (inB l h n) a) (ck (inB l h m && decide (m ≤ n)) b)
def sliceOp (lk : Nat → Ob u) (τ : Ty) (a : AV u) (lo hi mx : Option Int) (kk : AV u → Option R) : Option R :=
  match a with
  | .c ⟨.sl τ', xs⟩ => bif Nat.beq (sz u τ') (sz u τ) then (match mx with
    | none => ck (inB (loOf lo) (hiOf hi xs.length) xs.length) (kk (.c ⟨.sl τ', cut lo hi xs⟩))
    | some m => match hi with
      | some h => mx3 (loOf lo) h m xs.length (zk h (kk .kn) (kk (.kl τ' (cut lo hi xs)))) (kk .dead)
      | none => none) else none
  | .kl τ' xs => bif Nat.beq (sz u τ') (sz u τ) then (match mx with
    | none => ck (inB (loOf lo) (hiOf hi xs.length) xs.length) (match hi with
      | none => kk (.kl τ' (cut lo hi xs))
      | some _ => kk (.c ⟨.sl τ', cut lo hi xs⟩))
    | some m => match hi with
      | some h => mx3 (loOf lo) h m xs.length (zk h (kk .kn) (kk (.kl τ' (cut lo hi xs)))) (kk .dead)
      | none => none) else none
  | .kn => match mx, hi with
    | none, _ => ck (inB (loOf lo) (hiOf hi 0) 0) (kk .kn)
    | some m, some h => ck (inB (loOf lo) h 0 && decide (h = m)) (kk .kn)
    | _, _ => none
  | .own k => match obLen (lk k) with
    | some n => (match mx with
      | none => (match lo, hi with
        | none, none => kk (.own k)
        | _, _ => ck (inB (loOf lo) (hiOf hi n) n) (kk (.view k (sz u τ) (loOf lo).toNat ((hiOf hi n).toNat - (loOf lo).toNat) false)))
      | some m => match hi with
        | some h => mx3 (loOf lo) h m n (zk h (kk .kn) (kk (.view k (sz u τ) (loOf lo).toNat (h.toNat - (loOf lo).toNat) true))) (kk .dead)
        | none => none)
    | none => none
  | .view k s l n c => match mx with
    | none => bif Nat.beq s (sz u τ) && !(c && hi.isSome) then ck (inB (loOf lo) (hiOf hi n) (roomV (obLen (lk k)) l n c)) (kk (.view k s (l + (loOf lo).toNat) ((hiOf hi n).toNat - (loOf lo).toNat) c)) else none
    | some m => match hi with
      | some h => bif Nat.beq s (sz u τ) then ck (inB (loOf lo) h m && decide (m ≤ (n : Int))) (kk .dead) else none
      | none => none
  | _ => none

/-- Where a field lies: offset, size, is it itself of several cells. -/
def fieldOf (t : Option (TI u)) (f : Nat) : Option (Nat × Nat × Bool) :=
  match t with
  | some ⟨.st fs, _, _, _, _, _⟩ => fs[f]?
  | _ => none
def ltN (a b : Nat) : Bool := Nat.ble (a + 1) b
def faOp (t : Option (TI u)) (f : Nat) (a : AV u) (kk : AV u → Option R) : Option R :=
  match fieldOf t f with
  | some (off, s, _) => match a with
    | .ptr k n => bif Nat.ble (off + s) n then kk (.ptr (k + off) s) else none
    | .rp τ x o => kk (.rp τ x (o + off))
    | .ep k z i o => kk (.ep k z i (o + off))
    | _ => none
  | none => none
def takeCells (cs : List (AV u)) (off s : Nat) (agg : Bool) : Option (SV u) :=
  bif Nat.ble (off + s) cs.length then
    (match agg with
    | true => some (.agg ((cs.drop off).take s))
    | false => match cs.drop off with
      | a :: _ => bif Nat.beq s 1 then some (.v a) else none
      | [] => none)
  else none
def fOp (t : Option (TI u)) (f : Nat) (a : Slot u) (kk : Slot u → Option R) : Option R :=
  match fieldOf t f, a with
  | some (off, s, g), .sv (.agg cs) => match takeCells cs off s g with
    | some x => kk (.sv x)
    | none => none
  | _, _ => none
def iaOp (lk : Nat → Ob u) (t : Option (TI u)) (elt : Option (TI u)) (a : AV u) (i : Int) (kk : AV u → Option R) : Option R :=
  match t, elt with
  | some ⟨.sl _, _, _, _, _, _⟩, some e => match a with
    | .c ⟨.sl τ, xs⟩ => bif Nat.beq e.size (sz u τ) then gi xs i fun x => kk (.rp τ x 0) else none
    | .kl τ xs => bif Nat.beq e.size (sz u τ) then gi xs i fun x => kk (.rp τ x 0) else none
    | .own k => match lk k with
      | .row _ τ xs => bif Nat.beq e.size (sz u τ) then ck (decide (0 ≤ i) && decide (i < xs.length)) (kk (.ep k (sz u τ) i.toNat 0)) else none
      | .frz τ xs => bif Nat.beq e.size (sz u τ) then gi xs i fun x => kk (.rp τ x 0) else none
      | _ => none
    | .view k s lo n _ => match lk k with
      | .row _ τ xs => bif Nat.beq s (sz u τ) && Nat.beq e.size s then ck (decide (0 ≤ i) && decide (i < n)) (kk (.ep k s (lo + i.toNat) 0)) else none
      | .frz τ xs => bif Nat.beq s (sz u τ) && Nat.beq e.size s then gi ((xs.drop lo).take n) i fun x => kk (.rp τ x 0) else none
      | _ => none
    | _ => none
  | some ⟨.arr len _, _, _, _, _, _⟩, some e => match a with
    | .ptr k n => ck (decide (0 ≤ i) && decide (i < len)) (bif Nat.ble (i.toNat * e.size + e.size) n then kk (.ptr (k + i.toNat * e.size) e.size) else none)
    | _ => none
  | _, _ => none
/-- The type of the elements. -/
def eltOf (T : TypeId → Option (TI u)) (t : TypeId) : Option (TI u) :=
  match T t with
  | some ⟨.sl e, _, _, _, _, _⟩ => T e
  | some ⟨.arr _ e, _, _, _, _, _⟩ => T e
  | _ => none
def ixOp (t : Option (TI u)) (elt : Option (TI u)) (a : Slot u) (i : Int) (kk : Slot u → Option R) : Option R :=
  match t, a with
  | some ⟨.str, _, _, _, _, _⟩, .sv (.v (.c ⟨.str, s⟩)) => gi s i fun b => kk (one (cInt .u8 b.toNat))
  | some ⟨.arr len _, _, _, _, _, _⟩, .sv (.agg cs) => match elt with
    | some e => ck (decide (0 ≤ i) && decide (i < len)) (match takeCells cs (i.toNat * e.size) e.size e.agg with
      | some x => kk (.sv x)
      | none => none)
    | none => none
  | _, _ => none

def cellsAt (lk : Nat → Ob u) : Nat → Nat → Option (List (AV u))
  | _, 0 => some []
  | k, n + 1 => match lk k with
    | .cell a => match cellsAt lk (k + 1) n with
      | some r => some (a :: r)
      | none => none
    | _ => none
def shut (agg : Bool) (cs : List (AV u)) : Option (SV u) :=
  match agg, cs with
  | true, cs => some (.agg cs)
  | false, [a] => some (.v a)
  | _, _ => none
def ldOp (lk : Nat → Ob u) (t : Option (TI u)) (a : AV u) (kk : Slot u → Option R) : Option R :=
  match t with
  | some ti => match a with
    | .ptr k n => bif Nat.ble ti.size n then (match cellsAt lk k ti.size with
      | some cs => match shut ti.agg cs with
        | some x => kk (.sv x)
        | none => none
      | none => none) else none
    | .rp τ x o => match takeCells ((flat u τ x).map .c) o ti.size ti.agg with
      | some y => kk (.sv y)
      | none => none
    | .ep k s i o => match lk k with
      | .row _ τ xs => bif Nat.beq s (sz u τ) then gi xs i (fun x => match takeCells ((flat u τ x).map .c) o ti.size ti.agg with
        | some y => kk (.sv y)
        | none => none) else none
      | _ => none
    | _ => none
  | none => none
def noDead : List (AV u) → Bool
  | [] => true
  | .dead :: _ => false
  | _ :: r => noDead r
def setCells (k : Nat) : List (AV u) → List (Nat × Ob u)
  | [] => []
  | a :: r => (k, .cell a) :: setCells (k + 1) r
def isCells (lk : Nat → Ob u) : Nat → Nat → Bool
  | _, 0 => true
  | k, n + 1 => match lk k with
    | .cell _ => isCells lk (k + 1) n
    | _ => false
def putAt {α : Type} : List α → Nat → List α → List α
  | xs, _, [] => xs
  | xs, i, y :: ys => putAt (xs.set i y) (i + 1) ys
def stOp (lk : Nat → Ob u) (t : Option (TI u)) (a : AV u) (v : SV u) (kk : List (Nat × Ob u) → Option R) : Option R :=
  match t with
  | some ti => bif Nat.beq v.cells.length ti.size && noDead v.cells then (match a with
    | .ptr k n => bif Nat.ble ti.size n && isCells lk k ti.size then kk (setCells k v.cells) else none
    | .ep k s i o => match lk k with
      | .row e τ xs => bif Nat.beq s (sz u τ) then gi xs i (fun x => bif Nat.ble (o + ti.size) s then
          (match toElem lk τ (putAt ((flat u τ x).map .c) o v.cells) with
          | some (y, vs) => bif memN k (vs.map (·.1)) then none else kk (vs ++ [(k, .row e τ (xs.set i y))])
          | none => none) else none) else none
      | _ => none
    | _ => none) else none
  | none => none
/-- Are n objects from k on not in use? -/
def allFresh (lk : Nat → Ob u) : Nat → Nat → Bool
  | _, 0 => true
  | k, n + 1 => match lk k with
    | .fresh => allFresh lk (k + 1) n
    | _ => false
def boxOp (lk : Nat → Ob u) (dk : Nat) (cs : List (AV u)) (kk : AV u → List (Nat × Ob u) → Option R) : Option R :=
  bif allFresh lk dk cs.length then kk (.ptr dk cs.length) (setCells dk cs) else none
def fillA (fs : Nat → Option (Nat × Nat)) : List (AV u) → List (Nat × Slot u) → Option (List (AV u))
  | cs, [] => some cs
  | cs, (i, .sv x) :: r => match fs i with
    | some (off, s) => bif Nat.beq x.cells.length s && Nat.ble (off + s) cs.length && noDead x.cells then fillA fs (putAt cs off x.cells) r else none
    | none => none
  | _, _ => none
def offsOf (t : Option (TI u)) (elt : Option (TI u)) (i : Nat) : Option (Nat × Nat) :=
  match t with
  | some ⟨.st fs, _, _, _, _, _⟩ => match fs[i]? with
    | some (off, s, _) => some (off, s)
    | none => none
  | some ⟨.arr _ _, _, _, _, _, _⟩ => match elt with
    | some e => some (i * e.size, e.size)
    | none => none
  | _ => none
def buildable (k : TK) (elt : Option (TI u)) : Bool :=
  match k, elt with
  | .st _, _ => true
  | .arr _ _, some _ => true
  | _, _ => false
def buildOp (t elt : Option (TI u)) (parts : List (Nat × Slot u)) (kk : Slot u → Option R) : Option R :=
  match t with
  | some ti => bif buildable ti.kind elt then
    (match fillA (offsOf t elt) ti.zero parts with
    | some cs => kk (.sv (.agg cs))
    | none => none) else none
  | none => none
def repL {α : Type} (xs : List α) : Nat → List α
  | 0 => []
  | n + 1 => xs ++ repL xs n
/-- Elements out of cells: n of them, of s cells each. -/
def toElems (lk : Nat → Ob u) (τ : Ty) (s : Nat) : Nat → List (AV u) → Option (List (u.D τ) × List (Nat × Ob u))
  | 0, _ => some ([], [])
  | n + 1, cs => match toElem lk τ (cs.take s) with
    | some (x, vs) => match toElems (upds lk vs) τ s n (cs.drop s) with
      | some (xs, ws) => some (x :: xs, vs ++ ws)
      | none => none
    | none => none
def bsOp (lk : Nat → Ob u) (dk : Nat) (e : TypeId) (elt : Option (TI u)) (len : Nat) (parts : List (Nat × Slot u)) (kk : AV u → List (Nat × Ob u) → Option R) : Option R :=
  match elt with
  | some ti => match ti.den with
    | some τ => match fillA (fun i => some (i * ti.size, ti.size)) (repL ti.zero len) parts with
      | some cs => match toElems lk τ ti.size len cs with
        | some (xs, vs) => match upds lk vs dk with
          | .fresh => bif Nat.ble len 1000 && Nat.ble (len * ti.size) 16777216 then kk (.own dk) (vs ++ [(dk, .row e τ xs)]) else none
          | _ => none
        | none => none
      | none => none
    | none => none
  | none => none

def strNews (τ : Ty) : AV u → Option (List (u.D τ))
  | .c ⟨.str, s⟩ => asL τ (.int .u8) (numsOf s)
  | _ => none
def newsOf (tx : Option (TI u)) (lk : Nat → Ob u) (τ : Ty) (x : AV u) : Option (List (u.D τ)) :=
  match tx with
  | some ⟨.str, _, _, _, _, _⟩ => strNews τ x
  | some ⟨.sl _, _, _, _, _, _⟩ => toL lk τ x
  | _ => none
def apOp (lk : Nat → Ob u) (dk : Nat) (e : TypeId) (elt : Option (TI u)) (tx : Option (TI u)) (a x : AV u) (kk : AV u → List (Nat × Ob u) → Option R) : Option R :=
  match elt with
  | some ti => match ti.den with
    | some τ =>
      match newsOf tx lk τ x with
      | some ys => match a with
        | .own k => match lk k with
          | .row e' τ' xs => bif Nat.beq e e' then (match asL τ τ' xs with
            | some xs => match lk dk with
              | .fresh => ck (decide ((xs.length + ys.length) * ti.bytes ≤ roomOf)) (kk (.own dk) [(k, .dead), (dk, .row e τ (xs ++ ys))])
              | _ => none
            | none => none) else none
          | _ => none
        | .kn => match lk dk with
          | .fresh => ck (decide (ys.length * ti.bytes ≤ roomOf)) (kk (.own dk) [(dk, .row e τ ys)])
          | _ => none
        | .kl τ' xs => match asL τ τ' xs with
          | some xs => ck (decide ((xs.length + ys.length) * ti.bytes ≤ roomOf)) (kk (.c ⟨.sl τ, xs ++ ys⟩) [])
          | none => none
        | .view k s lo n false => match lk k with
          | .row e' τ' xs => bif Nat.beq e e' && Nat.beq s (sz u τ') then (match asL τ τ' xs with
            | some xs => ck (decide (lo + n + ys.length ≤ xs.length)) (kk (.view k s lo (n + ys.length) false) [(k, .row e τ (putAt xs (lo + n) ys))])
            | none => none) else none
          | _ => none
        | _ => none
      | none => none
    | none => none
  | none => none

/-! ### Maps, built-in functions -/
def eqD (u : Uni) : (τ : Ty) → u.D τ → u.D τ → Bool
  | .int _, (a : Int), (b : Int) => a == b
  | .bool, (a : Bool), (b : Bool) => a == b
  | .str, (a : List UInt8), (b : List UInt8) => a == b
  | _, _, _ => false
def keyTy : Ty → Bool
  | .int _ => true
  | .bool => true
  | .str => true
  | _ => false
def scal (τ : Ty) : AV u → Option (u.D τ)
  | .c x => Cell.as (S := u.S) τ x
  | _ => none
/-- Is the program's type of keys that of the data? -/
def keyK (ti : Option (TI u)) (kt : Ty) : Bool :=
  match ti with
  | some ti => match ti.kind, kt with
    | .int k, .int k' => kindEq k k'
    | .str, .str => true
    | .bool, .bool => true
    | _, _ => false
  | none => false
def zeroS (ti : Option (TI u)) (vt : Ty) : Option (u.D vt) :=
  match ti with
  | some ⟨_, false, _, _, [z], _⟩ => scal vt z
  | _ => none
def findM (u : Uni) (kt : Ty) {β : Type} (es : List (u.D kt × β)) (k : u.D kt) : Option β :=
  match es with
  | [] => none
  | (k', v) :: r => bif eqD u kt k k' then some v else findM u kt r k
def setM (u : Uni) (kt : Ty) {β : Type} (es : List (u.D kt × β)) (k : u.D kt) (v : β) : List (u.D kt × β) :=
  match es with
  | [] => [(k, v)]
  | (k', v') :: r => bif eqD u kt k k' then (k, v) :: r else (k', v') :: setM u kt r k v
def mkMap (dk : Nat) (lk : Nat → Ob u) (kt vt : Option (TI u)) (kk : AV u → List (Nat × Ob u) → Option R) : Option R :=
  match kt, vt with
  | some ⟨_, _, _, _, _, some k⟩, some ⟨_, _, _, _, _, some v⟩ => match lk dk with
    | .fresh => kk (.map dk) [(dk, .map k v [])]
    | _ => none
  | _, _ => none
def lookOp (lk : Nat → Ob u) (kti vti : Option (TI u)) (m key : AV u) (ok : Bool) (kk : Slot u → Option R) : Option R :=
  match m with
  | .map k => match lk k with
    | .map kt vt es => bif keyK kti kt then
      (match scal kt key, zeroS vti vt with
      | some x, some z => match ok with
        | true => kk (.tup [.v (.c ⟨vt, (findM u kt es x).getD z⟩), .v (cBool (findM u kt es x).isSome)])
        | false => kk (one (.c ⟨vt, (findM u kt es x).getD z⟩))
      | _, _ => none) else none
    | _ => none
  | _ => none
def updOp (lk : Nat → Ob u) (kti : Option (TI u)) (m key v : AV u) (kk : List (Nat × Ob u) → Option R) : Option R :=
  match m with
  | .map k => match lk k with
    | .map kt vt es => bif keyK kti kt then
      (match scal kt key, scal vt v with
      | some x, some y => kk [(k, .map kt vt (setM u kt es x y))]
      | _, _ => none) else none
    | _ => none
  | _ => none
def mx2 (a b : Int) : Int := if b > a then b else a
def mn2 (a b : Int) : Int := if b < a then b else a
def ints : List (Slot u) → Option (List (IntKind × Int))
  | [] => some []
  | .sv (.v (.c ⟨.int k, n⟩)) :: r => match ints r with
    | some l => some ((k, n) :: l)
    | none => none
  | _ => none
def zCells : List Ty → List (AV u) → Option (List u.C)
  | [], [] => some []
  | t :: ts, .c x :: as => match x.as t, zCells ts as with
    | some y, some l => some (⟨t, y⟩ :: l)
    | _, _ => none
  | .sl e :: ts, .kn :: as => match zCells ts as with
    | some l => some (⟨.sl e, ([] : List (Ty.den u.S e))⟩ :: l)
    | none => none
  | _, _ => none
def zeroE (elt : Option (TI u)) (τ : Ty) : Option (u.D τ) :=
  match elt with
  | some ti => match zCells (tysOf u τ) ti.zero with
    | some cs => pack u τ cs
    | none => none
  | none => none
def clrOp (lk : Nat → Ob u) (e : TypeId) (elt : Option (TI u)) (a : AV u) (kk : List (Nat × Ob u) → Option R) : Option R :=
  match a with
  | .kn => kk []
  | .view k s lo n _ => match lk k with
    | .row e' τ xs => match zeroE elt τ with
      | some z => bif Nat.beq s (sz u τ) && Nat.beq e e' then ck (decide (lo + n ≤ xs.length)) (kk [(k, .row e' τ (putAt xs lo (List.replicate n z)))]) else none
      | none => none
    | _ => none
  | _ => none
def bltOp (T : TypeId → Option (TI u)) (lk : Nat → Ob u) (dk : Nat) (b : Builtin) (ts : List TypeId) (args : List (Slot u)) (kk : Kt u R) : Option R :=
  match b, args with
  | .len, [.sv (.v a)] => match ts with
    | [t] => match T t with
      | some ti => match lenA lk ti.kind a with
        | some n => kk (one (cInt .i64 n)) []
        | none => none
      | none => none
    | _ => none
  | .cap, [.sv (.v a)] => match ts with
    | [t] => match T t with
      | some ⟨.sl _, _, _, _, _, _⟩ => match a with
        | .kl _ xs => kk (one (cInt .i64 xs.length)) []
        | .kn => kk (one (cInt .i64 0)) []
        | _ => none
      | _ => none
    | _ => none
  | .max, [x, y] => match ints [x, y] with
    | some [(k, a), (_, b)] => kk (one (cInt k (mx2 a b))) []
    | _ => none
  | .min, [x, y] => match ints [x, y] with
    | some [(k, a), (_, b)] => kk (one (cInt k (mn2 a b))) []
    | _ => none
  | .append, [.sv (.v a), .sv (.v x)] => match ts with
    | [t, tx] => match T t with
      | some ⟨.sl e, _, _, _, _, _⟩ => apOp lk dk e (T e) (T tx) a x fun r us => kk (one r) us
      | _ => none
    | _ => none
  | .clear, [.sv (.v a)] => match ts with
    | [t] => match T t with
      | some ⟨.sl e, _, _, _, _, _⟩ => clrOp lk e (T e) a fun us => kk (.tup []) us
      | _ => none
    | _ => none
  | _, _ => none

/-! ### Calls -/
/-- How a function takes its arguments, and gives its results. -/
structure Sig where
  args : List (List Sh)
  res : List (List Sh)
  lent : List (Nat × Sh)

abbrev Orc (u : Uni) (R : Type) := FuncId → List (SV u) → List (Ob u) → (List (SV u) → List (Ob u) → Option R) → Option R

def SV.re (x : SV u) (cs : List (AV u)) : SV u :=
  match x, cs with
  | .v _, [a] => .v a
  | _, cs => .agg cs
def coerceS (lk : Nat → Ob u) (ss : List Sh) (x : SV u) : Option (SV u × List (Nat × Ob u)) :=
  match coerces lk ss x.cells with
  | some (cs, us) => some (x.re cs, us)
  | none => none
def coerceSs (lk : Nat → Ob u) : List (List Sh) → List (SV u) → Option (List (SV u) × List (Nat × Ob u))
  | _, [] => some ([], [])
  | [], x :: xs => some (x :: xs, [])
  | s :: ss, x :: xs => match coerceS lk s x with
    | some (y, us) => match coerceSs (upds lk us) ss xs with
      | some (ys, vs) => some (y :: ys, us ++ vs)
      | none => none
    | none => none
def coerceC (lk : Nat → Ob u) : List (Nat × Sh) → Option (List (Nat × Ob u))
  | [] => some []
  | (k, s) :: r => match lk k with
    | .cell a => match coerce lk s a with
      | some (b, us) => match upds lk us k with
        | .cell _ => match coerceC (upds lk (us ++ [(k, .cell b)])) r with
          | some vs => some ((us ++ [(k, .cell b)]) ++ vs)
          | none => none
        | _ => none
      | none => none
    | _ => none
def refsS (l : List (SV u)) : List Nat := l.flatMap fun x => x.cells.flatMap refs
def zipK {α : Type} (f : Nat → Nat) : Nat → List α → List (Nat × α)
  | _, [] => []
  | i, o :: r => (f i, o) :: zipK f (i + 1) r
def renObL (ρ : Ren) : List (Ob u) → Option (List (Ob u))
  | [] => some []
  | o :: r => match renOb ρ o with
    | some b => match renObL ρ r with
      | some bs => some (b :: bs)
      | none => none
    | none => none
def resSlot : List (SV u) → Slot u
  | [x] => .sv x
  | l => .tup l
/-- The name in the caller of an object that came back: a lent one's old name, or a new one. -/
def backN (ks : List Nat) (m dk : Nat) (p : Nat) : Nat := match nthN ks p with
  | some k => k
  | none => dk + (p - m)
def reachFuel : Nat := 500
def nodupN : List Nat → Bool
  | [] => true
  | k :: r => !(memN k r) && nodupN r
def allLive (lk : Nat → Ob u) : List Nat → Bool
  | [] => true
  | k :: r => match lk k with
    | .fresh => false
    | _ => allLive lk r
def callOp (orc : Orc u R) (sg : FuncId → Option Sig) (lk : Nat → Ob u) (dk : Nat) (f : FuncId) (args : List (SV u)) (kk : Kt u R) : Option R :=
  match coerceSs lk (match sg f with | some s => s.args | none => []) args with
  | some (args, us) =>
    let lk1 := upds lk us
    match reach lk1 reachFuel (refsS args) [] with
    | some ks => bif nodupN ks && allLive lk1 ks then (match renSs (fun k => posN k ks) args, renObs (fun k => posN k ks) lk1 ks with
      | some as, some os => orc f as os fun res obs =>
        let m := ks.length
        bif Nat.ble m obs.length && allFresh lk1 dk (obs.length - m) then
          (match renSs (fun p => bif ltN p obs.length then some (backN ks m dk p) else none) res, renObL (fun p => bif ltN p obs.length then some (backN ks m dk p) else none) obs with
          | some rs, some bs => kk (resSlot rs) (us ++ zipK (backN ks m dk) 0 bs)
          | _, _ => none)
        else none
      | _, _ => none) else none
    | none => none
  | none => none

def svs : List (Slot u) → Option (List (SV u))
  | [] => some []
  | .sv x :: r => match svs r with
    | some l => some (x :: l)
    | none => none
  | _ => none

inductive Ex where
  | normal
  | exit (id : Nat)
  | ret

/-- Who answers calls, and who goes round loops. -/
structure Orcs (u : Uni) (R : Type) where
  fn : Orc u R
  lp : FuncId → Nat → Nat → St0 u → (Ex → St u → Option R) → Option R

/-- What a run goes by: types, the callees, how functions take their arguments. -/
structure Cx (u : Uni) (R : Type) where
  T : TypeId → Option (TI u)
  o : Orcs u R
  sg : FuncId → Option Sig

def av0s : List (AV u) → Option (List (AV0 u))
  | [] => some []
  | a :: r => match a.av0, av0s r with
    | some b, some bs => some (b :: bs)
    | _, _ => none
def avs : List (Slot u) → Option (List (AV u))
  | [] => some []
  | .sv (.v a) :: r => match avs r with
    | some l => some (a :: l)
    | none => none
  | _ => none
def partsOf (ev : Operand → Slot u) (ps : List (Nat × Operand)) : List (Nat × Slot u) := ps.map fun (i, x) => (i, ev x)

def sem (cx : Cx u R) (ev : Operand → Slot u) (lk : Nat → Ob u) (dk : Nat) (o : Op) (kk : Kt u R) : Option R :=
  match o with
  | .move x => kk (ev x) []
  | .assign x => kk (ev x) []
  | .pick c a b => match ev c with
    | .sv (.v (.c ⟨.bool, t⟩)) => cond t (kk (ev a) []) (kk (ev b) [])
    | _ => none
  | .alloc t => match cx.T t with
    | some ti => boxOp lk dk ti.zero fun r us => kk (one r) us
    | none => none
  | .box t x => match cx.T t, ev x with
    | some ti, .sv x => bif Nat.beq x.cells.length ti.size && noDead x.cells then boxOp lk dk x.cells (fun r us => kk (one r) us) else none
    | _, _ => none
  | .build t ps => buildOp (cx.T t) (eltOf cx.T t) (partsOf ev ps.toList) fun r => kk r []
  | .buildSlice t len ps => match cx.T t with
    | some ⟨.sl e, _, _, _, _, _⟩ => bsOp lk dk e (cx.T e) len (partsOf ev ps.toList) fun r us => kk (one r) us
    | _ => none
  | .load t a => match ev a with
    | .sv (.v a) => ldOp lk (cx.T t) a fun r => kk r []
    | _ => none
  | .store t a x => match ev a, ev x with
    | .sv (.v a), .sv x => stOp lk (cx.T t) a x fun us => kk .dead us
    | _, _ => none
  | .nilCheck x => match ev x with
    | .sv (.v (.ptr k n)) => kk (one (.ptr k n)) []
    | .sv (.v (.rp τ x o)) => kk (one (.rp τ x o)) []
    | .sv (.v (.ep k s i o)) => kk (one (.ep k s i o)) []
    | _ => none
  | .binOp op t x y _ => match ev x, ev y, cx.T t with
    | .sv (.v a), .sv (.v b), some ti => bOp op ti.kind a b fun r => kk (one r) []
    | _, _, _ => none
  | .unOp op _ x => match ev x with
    | .sv (.v a) => uOp op a fun r => kk (one r) []
    | _ => none
  | .convert s d x => match ev x, cx.T s, cx.T d with
    | .sv (.v a), some ts, some td => conv lk ts.kind td.kind (match ts.kind, td.kind with
      | .sl e, _ => (match cx.T e with | some ⟨.int .u8, _, _, _, _, _⟩ => true | _ => false)
      | _, .sl e => (match cx.T e with | some ⟨.int .u8, _, _, _, _, _⟩ => true | _ => false)
      | _, _ => false) a fun r => kk (one r) []
    | _, _, _ => none
  | .makeFunc fn first caps => match first.toList, avs (caps.toList.map ev) with
    | [], some l => match av0s l with
      | some l => kk (one (.fn fn l)) []
      | none => none
    | _, _ => none
  | .makeMap t r => match r, cx.T t with
    | none, some ⟨.map k e, _, _, _, _, _⟩ => mkMap dk lk (cx.T k) (cx.T e) fun a us => kk (one a) us
    | _, _ => none
  | .lookup t m k ok => match cx.T t, ev m, ev k with
    | some ⟨.map kt e, _, _, _, _, _⟩, .sv (.v a), .sv (.v b) => lookOp lk (cx.T kt) (cx.T e) a b ok fun r => kk r []
    | _, _, _ => none
  | .mapUpdate t m k x => match cx.T t, ev m, ev k, ev x with
    | some ⟨.map kt _, _, _, _, _, _⟩, .sv (.v a), .sv (.v b), .sv (.v c) => updOp lk (cx.T kt) a b c fun us => kk .dead us
    | _, _, _, _ => none
  | .slice t x lo hi mx => match ev x, cx.T t, bndO ev lo, bndO ev hi, bndO ev mx with
    | .sv (.v a), some ti, some l, some h, some m => (match ti.kind, a with
      | .str, .c ⟨.str, s⟩ => (match m with
        | none => ck (inB (loOf l) (hiOf h s.length) s.length) (kk (one (cStr (cut l h s))) [])
        | some _ => none)
      | .sl e, a => match cx.T e with
        | some ⟨_, _, _, _, _, some τ⟩ => sliceOp lk τ a l h m fun r => kk (one r) []
        | _ => none
      | _, _ => none)
    | _, _, _, _, _ => none
  | .fieldAddr t x f => match ev x with
    | .sv (.v a) => faOp (cx.T t) f a fun r => kk (one r) []
    | _ => none
  | .field t x f => fOp (cx.T t) f (ev x) fun r => kk r []
  | .indexAddr t x i => match ev x, bnd (ev i) with
    | .sv (.v a), some n => iaOp lk (cx.T t) (eltOf cx.T t) a n fun r => kk (one r) []
    | _, _ => none
  | .index t x i => match bnd (ev i) with
    | some n => ixOp (cx.T t) (eltOf cx.T t) (ev x) n fun r => kk r []
    | none => none
  | .range t x => match cx.T t, ev x with
    | some ⟨.str, _, _, _, _, _⟩, .sv (.v (.c ⟨.str, s⟩)) => (match lk dk with
      | .fresh => kk (one (.it dk)) [(dk, .sit s 0)]
      | _ => none)
    | _, _ => none
  | .next it true => match ev it with
    | .sv (.v (.it k)) => match lk k with
      | .sit s pos => cond (ltN pos s.length)
          (kk (.tup [.v (cBool true), .v (cInt .i64 pos), .v (cInt .i32 (Utf8.decode ⟨⟨s⟩⟩ pos).1)]) [(k, .sit s (pos + (Utf8.decode ⟨⟨s⟩⟩ pos).2))])
          (kk (.tup [.v (cBool false)]) [])
      | _ => none
    | _ => none
  | .extract x i => match ev x with
    | .tup l => match l[i]? with
      | some y => kk (.sv y) []
      | none => none
    | _ => none
  | .call c => match c.callee with
    | .builtin b => bltOp cx.T lk dk b c.argTypes.toList (c.args.toList.map ev) kk
    | .value g => match ev g, svs (c.args.toList.map ev) with
      | .sv (.v (.raw (.func (.func f) ⟨[]⟩ ⟨[]⟩))), some args => callOp cx.o.fn cx.sg lk dk f args kk
      | .sv (.v (.fn (.func f) caps)), some args => callOp cx.o.fn cx.sg lk dk f (args ++ caps.map fun a => .v a.av) kk
      | _, _ => none
    | _ => none
  | _ => none

/-! ### Code -/
def upTo (n : Nat) : Nat → List Nat
  | 0 => []
  | k + 1 => n :: upTo (n + 1) k
/-- A place where states are brought to a shape: what lives there. -/
structure LH where
  slots : List (Nat × List Sh)
  cells : List (Nat × Sh)
  keep : List Nat
/-- How a loop is gone round: so many rounds written out, or by a head (and a shape behind each way out). -/
inductive LM where
  | unroll (n : Nat)
  | head (h : LH) (exit : Nat → Option LH) (ret : Option LH)

def normSlots (lk : Nat → Ob u) (sl : Nat → Slot u) : List (Nat × List Sh) → Option (List (Nat × SV u) × List (Nat × Ob u))
  | [] => some ([], [])
  | (i, ss) :: r => match sl i with
    | .sv x => match coerceS lk ss x with
      | some (y, us) => match normSlots (upds lk us) sl r with
        | some (ys, vs) => some ((i, y) :: ys, us ++ vs)
        | none => none
      | none => none
    | _ => none
def obTab (lk : Nat → Ob u) : List Nat → List (Nat × Ob u)
  | [] => []
  | k :: r => (k, lk k) :: obTab lk r
def obOf : List (Nat × Ob u) → Nat → Ob u
  | [], _ => .fresh
  | (i, x) :: r, j => bif Nat.beq j i then x else obOf r j
def kept (lk : Nat → Ob u) (l : List Nat) : Nat → Ob u := obOf (obTab lk l)
def slotsOf : List (Nat × SV u) → Nat → Slot u
  | [], _ => .dead
  | (i, x) :: r, j => bif Nat.beq j i then .sv x else slotsOf r j
def cellRefs (lk : Nat → Ob u) : List Nat → List Nat
  | [] => []
  | k :: r => obRefs (lk k) ++ cellRefs lk r
def stOf (s : St0 u) : St u := ⟨slotsOf s.1, obOf s.2⟩
def norm (m : Nat) (h : LH) (σ : St u) : Option (St0 u) :=
  match normSlots σ.ob σ.sl h.slots with
  | some (ys, us) =>
    let lk := upds σ.ob us
    match coerceC lk h.cells with
    | some vs =>
      let lk' := upds lk vs
      let l := h.cells.map (·.1) ++ h.keep
      bif (allIn l (refsS (ys.map (·.2))) && allIn l (cellRefs lk' l)) && allIn l (upTo 0 m) then some (ys, obTab lk' l) else none
    | none => none
  | none => none

def rdBool : Slot u → Option Bool
  | .sv (.v (.c ⟨.bool, b⟩)) => some b
  | _ => none
def dkOf : Option Nat → Nat
  | some d => 1000 * (d + 1)
  | none => 999
/-- Does an operation make an object? -/
def usesK : Op → Bool
  | .alloc _ => true
  | .box _ _ => true
  | .buildSlice _ _ _ => true
  | .makeMap _ _ => true
  | .range _ _ => true
  | .call c => match c.callee with
    | .builtin .append => true
    | .builtin _ => false
    | _ => true
  | _ => false
/-- The first name that is not in use. -/
def findK (lk : Nat → Ob u) (k : Nat → Option R) : Nat → Nat → Option R
  | 0, _ => none
  | n + 1, d => match lk d with
    | .fresh => k d
    | _ => findK lk k n (d + 1000000)
def withK (op : Op) (lk : Nat → Ob u) (d : Nat) (k : Nat → Option R) : Option R := bif usesK op then findK lk k 200 d else k d
def opKd (cx : Cx u R) (dk : Nat) (o : Oper) (σ : St u) (K : St u → Option R) : Option R :=
  sem cx σ.ev σ.ob dk o.op fun v us => K ((σ.obs us).put o.dst v)
def opK (cx : Cx u R) (o : Oper) (σ : St u) (K : St u → Option R) : Option R :=
  withK o.op σ.ob (dkOf o.dst) fun dk => opKd cx dk o σ K
def nthO : List Oper → Nat → Option Oper
  | [], _ => none
  | o :: _, 0 => some o
  | _ :: r, n + 1 => nthO r n
def isUnd : Slot u → Bool
  | .und => true
  | _ => false
/-- An operation, if its guard lets it. -/
def gOp (ops : Array Oper) (o : Oper) (σ : St u) (perform : St u → Option R) (skip : St u → Option R) : Option R :=
  match o.guard with
  | none => perform σ
  | some (j, want) => match (nthO ops.toList j).bind (·.dst) with
    | some s => match rdBool (σ.sl s) with
      | some b => match want with
        | true => cond b (perform (σ.set s (one (cBool true)))) (skip (σ.set s (one (cBool false))))
        | false => cond b (skip (σ.set s (one (cBool true)))) (perform (σ.set s (one (cBool false))))
      | none => bif isUnd (σ.sl s) then skip σ else none
    | none => none
def execIx (cx : Cx u R) (ops : Array Oper) : List Nat → St u → (St u → Option R) → Option R
  | [], σ, K => K σ
  | i :: r, σ, K => match nthO ops.toList i with
    | some o => gOp ops o σ (fun σ => opK cx o σ fun σ' => execIx cx ops r σ' K) (fun σ => execIx cx ops r (σ.put o.dst .und) K)
    | none => execIx cx ops r σ K

/-! ### Regions whose order is drawn -/
/-- Operations that change nothing but their own temporary (a store through a pointer aside): what of their operands leads to memory that they read. -/
def memOps : Op → Option (List Operand)
  | .move _ => some []
  | .assign _ => some []
  | .pick _ _ _ => some []
  | .nilCheck _ => some []
  | .binOp _ _ _ _ _ => some []
  | .unOp _ _ _ => some []
  | .field _ _ _ => some []
  | .fieldAddr _ _ _ => some []
  | .index _ _ _ => some []
  | .extract _ _ => some []
  | .build _ _ => some []
  | .load _ a => some [a]
  | .indexAddr _ x _ => some [x]
  | .slice _ x _ _ _ => some [x]
  | .convert _ _ x => some [x]
  | .store _ a _ => some [a]
  | .call c => match c.callee with
    | .builtin .len => some c.args.toList
    | _ => none
  | _ => none
def isStore : Op → Bool
  | .store _ _ _ => true
  | _ => false
def slotRefs : Slot u → List Nat
  | .sv x => x.cells.flatMap refs
  | _ => []
def isPtr : Slot u → Bool
  | .sv (.v (.ptr _ _)) => true
  | _ => false
def touchIn (ev : Operand → Slot u) (tk : List Nat) : List Operand → Bool
  | [] => true
  | x :: r => allIn tk (slotRefs (ev x)) && touchIn ev tk r
def touchOk (op : Op) (ev : Operand → Slot u) (tk : List Nat) : Bool :=
  match op with
  | .store _ a _ => isPtr (ev a) && allIn tk (slotRefs (ev a))
  | op => match memOps op with
    | some xs => touchIn ev tk xs
    | none => false
def isP (op : Op) : Bool := (memOps op).isSome && !isStore op
def floats (op : Op) (ev : Operand → Slot u) : Bool :=
  match op with
  | .store _ a _ => isPtr (ev a)
  | op => (memOps op).isSome
def touches (ev : Operand → Slot u) : List Operand → List Nat
  | [] => []
  | x :: r => slotRefs (ev x) ++ touches ev r
def touched (op : Op) (ev : Operand → Slot u) : List Nat :=
  match memOps op with
  | some xs => touches ev xs
  | none => []
/-- What an operation of a drawn region did: does it change nothing, may it float, what it touched, what it changed. -/
structure LE where
  i : Nat
  p : Bool
  f : Bool
  tk : List Nat
  ks : List Nat
def disj (a : List Nat) : List Nat → Bool
  | [] => true
  | k :: r => !(memN k a) && disj a r
def conf (j i : LE) : Bool := (j.p || (i.f && disj i.tk j.ks)) && ((i.p || (j.f && disj j.tk i.ks)) && (j.p || (i.p || disj i.ks j.ks)))
def bindsAll (e : Edge) : Bool := match e.ground with
  | .textOnly _ => false
  | .gcOnly _ => false
  | _ => true
def nthM : List Nat → Nat → Nat
  | [], _ => 0
  | x :: _, 0 => x
  | _ :: r, n + 1 => nthM r n
def maskOf (ms : List Nat) : List Edge → Nat
  | [] => 0
  | e :: r => bif bindsAll e then ((1 <<< e.on) ||| nthM ms e.on) ||| maskOf ms r else maskOf ms r
/-- Which operations come ahead of each, in every order. -/
def masks : List Oper → List Nat → List Nat
  | [], acc => acc
  | o :: r, acc => masks r (acc ++ [maskOf acc o.after.toList])
def logOk (m : Nat) (e : LE) : List LE → Bool
  | [] => true
  | x :: r => (m.testBit x.i || conf x e) && logOk m e r
def keysOf : List (Nat × Ob u) → List Nat
  | [] => []
  | (k, _) :: r => k :: keysOf r
def noRefs (x : Slot u) : Bool := match slotRefs x with
  | [] => true
  | _ => false
def allNo : List (Slot u) → Bool
  | [] => true
  | x :: r => noRefs x && allNo r
def plainFn (sg : FuncId → Option Sig) : Slot u → Bool
  | .sv (.v (.raw (.func (.func f) ⟨[]⟩ ⟨[]⟩))) => (sg f).isNone
  | _ => false
/-- An operation that makes something anew, and leads to nothing that is there. -/
def isNew (sg : FuncId → Option Sig) (op : Op) (ev : Operand → Slot u) : Bool :=
  match op with
  | .alloc _ => true
  | .box _ _ => true
  | .call c => match c.callee with
    | .value g => plainFn sg (ev g) && allNo (c.args.toList.map ev)
    | _ => false
  | _ => false
def entry (sg : FuncId → Option Sig) (i : Nat) (op : Op) (ev : Operand → Slot u) (us : List (Nat × Ob u)) : LE :=
  bif isNew sg op ev then ⟨i, isP op, true, keysOf us, keysOf us⟩ else ⟨i, isP op, floats op ev, touched op ev, keysOf us⟩
def skipped (i : Nat) : LE := ⟨i, true, true, [], []⟩
/-- One operation of a drawn region, its log behind it. -/
def stepL (cx : Cx u R) (ops : Array Oper) (ms : List Nat) (i : Nat) (log : List LE) (σ : St u) (K : List LE → St u → Option R) : Option R :=
  match nthO ops.toList i with
  | some o => gOp ops o σ
    (fun σ => withK o.op σ.ob (dkOf o.dst) fun dk => sem cx σ.ev σ.ob dk o.op fun v us => bif logOk (nthM ms i) (entry cx.sg i o.op σ.ev us) log then K (entry cx.sg i o.op σ.ev us :: log) ((σ.obs us).put o.dst v) else none)
    (fun σ => K (skipped i :: log) (σ.put o.dst .und))
  | none => none
def execDy (cx : Cx u R) (ops : Array Oper) (ms : List Nat) : List Nat → List LE → St u → (St u → Option R) → Option R
  | [], _, σ, K => K σ
  | i :: r, log, σ, K => stepL cx ops ms i log σ fun log' σ' => execDy cx ops ms r log' σ' K

def loopId : Code → Nat
  | .region id _ _ => id
  | .seq a _ => loopId a
  | .block _ c => loopId c
  | .loop c => loopId c
  | .cond _ a _ => loopId a
  | _ => 0

/-- What a function's run goes by beside the program: its loops' heads, what its drawn regions touch. -/
structure Hn where
  loops : Nat → Option LM

def unrollF (body : (Ex → St u → Option R) → St u → Option R) (K : Ex → St u → Option R) : Nat → St u → Option R
  | 0, _ => none
  | n + 1, σ => body (fun e σ'' => match e with
        | .normal => unrollF body K n σ''
        | .exit id => K (.exit id) σ''
        | .ret => K .ret σ'') σ
def exec (cx : Cx u R) (f : FuncId) (hn : Hn) (m : Nat) : Code → (Ex → St u → Option R) → St u → Option R
  | .skip, K, σ => K .normal σ
  | .region _ ops false, K, σ => execIx cx ops (upTo 0 ops.toList.length) σ (K .normal)
  | .region _ ops true, K, σ => execDy cx ops (masks ops.toList []) (upTo 0 ops.toList.length) [] σ (K .normal)
  | .seq a b, K, σ => exec cx f hn m a (fun e σ' => match e with
    | .normal => exec cx f hn m b K σ'
    | .exit id => K (.exit id) σ'
    | .ret => K .ret σ') σ
  | .cond (.tmp s) a b, K, σ => match rdBool (σ.sl s) with
    | some t => cond t (exec cx f hn m a K (σ.set s (one (cBool true)))) (exec cx f hn m b K (σ.set s (one (cBool false))))
    | none => none
  | .cond (.const (.bool t)) a b, K, σ => cond t (exec cx f hn m a K σ) (exec cx f hn m b K σ)
  | .block id c, K, σ => exec cx f hn m c (fun e σ' => match e with
    | .normal => K .normal σ'
    | .exit i => bif Nat.beq i id then K .normal σ' else K (.exit i) σ'
    | .ret => K .ret σ') σ
  | .loop c, K, σ => match hn.loops (loopId c) with
    | some (.unroll n) => unrollF (fun K' σ' => exec cx f hn m c K' σ') K n σ
    | some (.head h _ _) => match norm m h σ with
      | some σ' => cx.o.lp f m (loopId c) σ' K
      | none => none
    | none => none
  | .exit id, K, σ => K (.exit id) σ
  | .ret, K, σ => K .ret σ
  | _, _, _ => none
/-- A round of a loop that goes by a head. -/
def round (cx : Cx u R) (f : FuncId) (hn : Hn) (m : Nat) (id : Nat) (c : Code) (h : LH) (ex : Nat → Option LH) (rt : Option LH) (s : St0 u) (K : Ex → St u → Option R) : Option R :=
  exec cx f hn m c (fun e σ'' => match e with
    | .normal => match norm m h σ'' with
      | some σ' => cx.o.lp f m id σ' K
      | none => none
    | .exit i => match ex i with
      | some x => match norm m x σ'' with
        | some σ' => K (.exit i) (stOf σ')
        | none => none
      | none => none
    | .ret => match rt with
      | some x => match norm m x σ'' with
        | some σ' => K .ret (stOf σ')
        | none => none
      | none => none) (stOf s)
def loopsOf : Code → List Code
  | .seq a b => loopsOf a ++ loopsOf b
  | .cond _ a b => loopsOf a ++ loopsOf b
  | .block _ c => loopsOf c
  | .loop c => c :: loopsOf c
  | _ => []
def findL (id : Nat) : List Code → Option Code
  | [] => none
  | c :: r => bif Nat.beq (loopId c) id then some c else findL id r
def findLoop (id : Nat) (c : Code) : Option Code := findL id (loopsOf c)

/-! ### Functions -/
structure FI where
  fn : Func
  hn : Hn

structure Pg (u : Uni) (R : Type) where
  T : TypeId → Option (TI u)
  sg : FuncId → Option Sig
  fns : FuncId → Option FI
  ext : FuncId → Option (List (SV u) → List (Ob u) → (List (SV u) → List (Ob u) → Option R) → Option R)

def obsAt : List (Ob u) → Nat → Ob u
  | [], _ => .fresh
  | o :: _, 0 => o
  | _ :: r, n + 1 => obsAt r n
def slotsAt : List (SV u) → Nat → Slot u
  | [], _ => .dead
  | x :: _, 0 => .sv x
  | _ :: r, n + 1 => slotsAt r n
def resOf (T : TypeId → Option (TI u)) (σ : St u) : List ResultVar → Option (List (SV u))
  | [] => some []
  | .tmp t :: r => match σ.sl t with
    | .sv x => match resOf T σ r with
      | some l => some (x :: l)
      | none => none
    | _ => none
  | .cell a t :: r => match σ.sl a with
    | .sv (.v a) => match ldOp σ.ob (T t) a (fun x => some x) with
      | some (.sv x) => match resOf T σ r with
        | some l => some (x :: l)
        | none => none
      | _ => none
    | _ => none
def isPre : Nat → Nat → List Nat → Bool
  | _, 0, _ => true
  | i, m + 1, k :: r => Nat.beq k i && isPre (i + 1) m r
  | _, _, _ => false
/-- The end of a function: its results, and the objects that were lent to it. -/
def retK (T : TypeId → Option (TI u)) (sg : Option Sig) (fn : Func) (m : Nat) (kk : List (SV u) → List (Ob u) → Option R) (σ : St u) : Option R :=
  match resOf T σ fn.results.toList with
  | some rs => match coerceSs σ.ob (match sg with | some s => s.res | none => []) rs with
    | some (rs, us) =>
      let lk := upds σ.ob us
      match coerceC lk (match sg with | some s => s.lent | none => []) with
      | some vs =>
        let lk := upds lk vs
        match reach lk reachFuel (upTo 0 m ++ refsS rs) [] with
        | some ks => bif isPre 0 m ks && (nodupN ks && allLive lk ks) then (match renSs (fun k => posN k ks) rs, renObs (fun k => posN k ks) lk ks with
          | some as, some os => kk as os
          | _, _ => none) else none
        | none => none
      | none => none
    | none => none
  | none => none
/-- A function's run, told who answers its calls. -/
def bodyFn (pg : Pg u R) (o : Orcs u R) : Orc u R := fun f args lent kk => match pg.ext f with
  | some e => e args lent kk
  | none => match pg.fns f with
    | some fi => match fi.fn.body with
      | some c => bif Nat.ble args.length fi.fn.ntmps then exec ⟨pg.T, o, pg.sg⟩ f fi.hn lent.length c (fun e σ => match e with
        | .exit _ => none
        | _ => retK pg.T (pg.sg f) fi.fn lent.length kk σ) ⟨slotsAt args, obsAt lent⟩ else none
      | none => none
    | none => none
/-- A loop's round, told who goes on. -/
def bodyLp (pg : Pg u R) (o : Orcs u R) : FuncId → Nat → Nat → St0 u → (Ex → St u → Option R) → Option R := fun f m id σ K => match pg.fns f with
  | some fi => match fi.fn.body, fi.hn.loops id with
    | some c, some (.head h ex rt) => match findLoop id c with
      | some c' => round ⟨pg.T, o, pg.sg⟩ f fi.hn m id c' h ex rt σ K
      | none => none
    | _, _ => none
  | none => none
def run (pg : Pg u R) : Nat → Orcs u R
  | 0 => ⟨fun _ _ _ _ => none, fun _ _ _ _ _ => none⟩
  | n + 1 => ⟨bodyFn pg (run pg n), bodyLp pg (run pg n)⟩
end
end Go.Proofs.YtmppaodhihnejaaGreat.M
