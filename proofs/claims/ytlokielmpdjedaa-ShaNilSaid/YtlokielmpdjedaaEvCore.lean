/- The evaluator: an interpreter of the translated code over typed values; definitions alone. -/
import Derived.WalkKit
import Derived.Still
namespace Go.Proofs.Ytlokielmpdjedaa.Ev
open Go
set_option linter.unusedVariables false

inductive EK where
  | int (k : IntKind) | bool | str | pair (a b : EK)
  deriving DecidableEq

@[reducible] def EK.den : EK → Type
  | .int _ => Int
  | .bool => Bool
  | .str => ByteArray
  | .pair a b => EK.den a × EK.den b

def EK.w : EK → Nat
  | .pair a b => a.w + b.w
  | _ => 1

def EK.zero : (k : EK) → k.den
  | .int _ => (0 : Int)
  | .bool => false
  | .str => ByteArray.empty
  | .pair a b => (a.zero, b.zero)

inductive LV where
  | top
  | int (k : IntKind) (n : Int)
  | bool (b : Bool)
  | str (s : ByteArray)
  | nilp
  | nils (k : Option EK)
  | ptr (id off : Nat)
  | pix (id off i o2 : Nat)
  | full (id : Nat)
  | slice (id off lo len : Nat) (cap : Option Nat)
  | fn (f : Nat)
  | seq (k : EK) (n : Nat) (l : List k.den)

inductive TV where
  | lf (x : LV)
  | agg (l : List LV)

inductive AV where
  | tv (v : TV)
  | tup (l : List TV)

abbrev AV.top : AV := .tv (.lf .top)

def TV.ents : TV → List LV
  | .lf x => [x]
  | .agg l => l

def EK.toLV : (k : EK) → k.den → List LV
  | .int k, n => [.int k n]
  | .bool, b => [.bool b]
  | .str, s => [.str s]
  | .pair a b, p => a.toLV p.1 ++ b.toLV p.2

def EK.ofLV : (k : EK) → List LV → Option (k.den × List LV)
  | .int k, .int k' n :: r => if k = k' then some (n, r) else none
  | .bool, .bool b :: r => some (b, r)
  | .str, .str s :: r => some (s, r)
  | .pair a b, l => match a.ofLV l with
    | some (x, r) => match b.ofLV r with
      | some (y, r') => some ((x, y), r')
      | none => none
    | none => none
  | _, _ => none

def EK.of1 (k : EK) (l : List LV) : Option k.den :=
  match k.ofLV l with
  | some (x, []) => some x
  | _ => none

def LV.w : LV → Nat
  | .seq k n _ => n * k.w
  | _ => 1

/-- What stands from an offset on: only whole entries of a known width are passed. -/
def dropW : List LV → Nat → Option (List LV)
  | l, 0 => some l
  | [], _ + 1 => none
  | x :: r, n + 1 => if 0 < x.w ∧ x.w ≤ n + 1 then dropW r (n + 1 - x.w) else none

def takeW : List LV → Nat → Option (List LV)
  | _, 0 => some []
  | [], _ + 1 => none
  | x :: r, n + 1 => if 0 < x.w ∧ x.w ≤ n + 1 then (match takeW r (n + 1 - x.w) with | some l => some (x :: l) | none => none) else none

/-- The width of entries each of which has a known width. -/
def wOf : List LV → Option Nat
  | [] => some 0
  | x :: r => if 0 < x.w then (match wOf r with | some n => some (x.w + n) | none => none) else none

/-- The entries from an offset on are replaced by others. -/
def putW (l : List LV) (off : Nat) (new : List LV) : Option (List LV) :=
  match wOf new with
  | some n => match takeW l off, dropW l off with
    | some a, some b => match dropW b n with
      | some c => some (a ++ (new ++ c))
      | none => none
    | _, _ => none
  | none => none

structure Ob where
  ro : Bool
  es : List LV

abbrev Heap := List (Option Ob)

def hget : Heap → Nat → Option Ob
  | [], _ => none
  | x :: _, 0 => x
  | _ :: r, n + 1 => hget r n

def hset : Heap → Nat → Option Ob → Heap
  | [], _, _ => []
  | _ :: r, 0, o => o :: r
  | x :: r, n + 1, o => x :: hset r n o

abbrev Env := List AV

def eget : Env → Nat → AV
  | [], _ => .top
  | x :: _, 0 => x
  | _ :: r, n + 1 => eget r n

def eset : Env → Nat → AV → Env
  | [], _, _ => []
  | _ :: r, 0, o => o :: r
  | x :: r, n + 1, o => x :: eset r n o

abbrev Res := List TV × Heap
abbrev Summ := List TV → Heap → (List TV → Heap → Option Res) → Option Res

/-- Both ways, which must come to the same. -/
noncomputable def amb {β : Type} (x y : Option β) : Option β := @ite _ (x = y) (Classical.propDecidable _) x none
theorem amb_some {β : Type} {x y : Option β} {r : β} (h : amb x y = some r) : x = some r ∧ y = some r := by
  unfold amb at h
  split at h
  · rename_i e; exact ⟨h, e ▸ h⟩
  · cases h
theorem amb_self {β : Type} (x : Option β) : amb x x = x := by unfold amb; rw [if_pos rfl]

section types
variable (P : Program)

def szOf (t : TypeId) : Nat := match P.info? t with | some i => i.size | none => 0
def bytesOf (t : TypeId) : Nat := match P.info? t with | some i => i.bytes | none => 0
def isAggT (t : TypeId) : Bool := match P.underlying t with | some (.struct _) | some (.array _ _) => true | _ => false

def pairs : List EK → Option EK
  | [] => none
  | [k] => some k
  | k :: r => match pairs r with | some q => some (.pair k q) | none => none

def allSome {α : Type} : List (Option α) → Option (List α)
  | [] => some []
  | some x :: r => match allSome r with | some l => some (x :: l) | none => none
  | none :: _ => none

def ekOf : Nat → TypeId → Option EK
  | 0, _ => none
  | f + 1, t => match P.underlying t with
    | some (.int k) => some (.int k)
    | some .bool => some .bool
    | some .string => some .str
    | some (.struct fs) => match allSome (fs.toList.map fun x => ekOf f x.type) with
      | some l => pairs l
      | none => none
    | _ => none

def elemK (t : TypeId) : Option EK := match P.underlying t with
  | some (.slice e) => ekOf P 8 e
  | _ => none

/-- Cells of a constant that are read as elements. -/
def constL (g : List Value → Option (List LV × List Value)) (k : EK) : Nat → List Value → Option (List k.den × List Value)
  | 0, vs => some ([], vs)
  | m + 1, vs => match g vs with
    | some (es, r) => match k.of1 es with
      | some x => match constL g k m r with
        | some (l, r') => some (x :: l, r')
        | none => none
      | none => none
    | none => none

def constF (g : TypeId → List Value → Option (List LV × List Value)) : List TypeId → List Value → Option (List LV × List Value)
  | [], vs => some ([], vs)
  | x :: xs, vs => match g x vs with
    | some (es, r) => match constF g xs r with
      | some (l, r') => some (es ++ l, r')
      | none => none
    | none => none

/-- A constant's cells as entries, by the type. -/
def constE : Nat → TypeId → List Value → Option (List LV × List Value)
  | 0, _, _ => none
  | f + 1, t, vs => match P.underlying t with
    | some (.struct fs) => constF (constE f) (fs.toList.map (·.type)) vs
    | some (.array n e) => match ekOf P 8 e with
      | some k => match constL (constE f e) k n vs with
        | some (l, r) => some ([.seq k n l], r)
        | none => none
      | none => none
    | some (.slice e) => match vs with
      | .slice none 0 0 :: r => some ([.nils (ekOf P 8 e)], r)
      | _ => none
    | _ => match vs with
      | .int k n :: r => some ([.int k n], r)
      | .bool b :: r => some ([.bool b], r)
      | .string s :: r => some ([.str s], r)
      | .pointer none :: r => some ([.nilp], r)
      | _ => none

def zeroE (t : TypeId) : Option (List LV) := match P.info? t with
  | some i => match i.zero with
    | some v => match constE P 8 t v.cells.toList with
      | some (l, []) => some l
      | _ => none
    | none => none
  | none => none

/-- An element type: its kind, and its zero. -/
def elemOf (e : TypeId) : Option ((k : EK) × k.den) := match ekOf P 8 e with
  | some k => if szOf P e = k.w ∧ 0 < bytesOf P e then (match zeroE P e with
    | some es => match k.of1 es with
      | some z => some ⟨k, z⟩
      | none => none
    | none => none) else none
  | none => none

def constTV (t : TypeId) (v : Value) : Option TV :=
  match v with
  | .agg cs => match constE P 8 t cs.toList with
    | some (l, []) => some (.agg l)
    | _ => none
  | .int k n => some (.lf (.int k n))
  | .bool b => some (.lf (.bool b))
  | .string s => some (.lf (.str s))
  | .pointer none => some (.lf .nilp)
  | .slice none 0 0 => some (.lf (.nils (elemK P t)))
  | _ => none

def opd (env : Env) (t : TypeId) : Operand → Option AV
  | .tmp i => match eget env i with
    | .tv (.lf .top) => none
    | v => some v
  | .const v => match constTV P t v with | some x => some (.tv x) | none => none
  | .func f => some (.tv (.lf (.fn f)))
  | _ => none

def ldE (t : TypeId) (es : List LV) : Option TV :=
  if isAggT P t then (match takeW es (szOf P t) with | some l => some (.agg l) | none => none)
  else match P.underlying t with
    | none => none
    | some _ => match es with
      | .seq _ _ _ :: _ => none
      | x :: _ => some (.lf x)
      | [] => none

end types

def ofInts (l : List Int) : ByteArray := ⟨(l.map fun n => UInt8.ofNat n.toNat).toArray⟩
def toInts (s : ByteArray) : List Int := s.data.toList.map fun c => (c.toNat : Int)

section eval
variable (P : Program)

def castL {a b : EK} (h : a = b) (l : List a.den) : List b.den := h ▸ l

def sliceForm (h : Heap) : LV → Option (Nat × Nat × Nat × Nat × Option Nat)
  | .slice id off lo len cap => some (id, off, lo, len, cap)
  | .full id => match hget h id with
    | some o => match o.es with
      | [.seq _ _ l] => some (id, 0, 0, l.length, none)
      | _ => none
    | none => none
  | _ => none

/-- The elements' width in the list that stands at an offset. -/
def ewAt (h : Heap) (id off : Nat) : Option Nat := match hget h id with
  | some o => match dropW o.es off with
    | some (.seq k _ _ :: _) => some k.w
    | _ => none
  | none => none

/-- The static length of the array that stands at an offset. -/
def lenAt (h : Heap) (id off : Nat) : Option Nat := match hget h id with
  | some o => match dropW o.es off with
    | some (.seq _ n _ :: _) => if 0 < n then some n else none
    | _ => none
  | none => none

/-- What a slice shows: its elements. -/
def vis (h : Heap) (x : LV) : Option ((k : EK) × List k.den) :=
  match x with
  | .full id => match hget h id with
    | some o => match o.es with
      | [.seq k _ l] => some ⟨k, l⟩
      | _ => none
    | none => none
  | .slice id off lo len _ => match hget h id with
    | some o => match dropW o.es off with
      | some (.seq k _ l :: _) => some ⟨k, (l.drop lo).take len⟩
      | _ => none
    | none => none
  | _ => none

/-- The same of a known kind; a text's bytes too. -/
def visK (k : EK) (h : Heap) (x : LV) : Option (List k.den) :=
  match x with
  | .nils _ => some []
  | .str s => if hk : EK.int .u8 = k then some (castL hk (toInts s)) else none
  | x => match vis h x with
    | some ⟨k', l⟩ => if hk : k' = k then some (castL hk l) else none
    | none => none

def intOp (op : BinOp) (k : IntKind) (x y : Int) (K : LV → Option Res) : Option Res :=
  match op with
  | .add => K (.int k (k.wrap (x + y)))
  | .sub => K (.int k (k.wrap (x - y)))
  | .mul => K (.int k (k.wrap (x * y)))
  | .quo => cond (decide (y = 0)) none (K (.int k (k.wrap (x.tdiv y))))
  | .rem => cond (decide (y = 0)) none (K (.int k (x.tmod y)))
  | .and => K (.int k (k.wrap (BitVec.ofInt k.bits x &&& BitVec.ofInt k.bits y).toNat))
  | .or => K (.int k (k.wrap (BitVec.ofInt k.bits x ||| BitVec.ofInt k.bits y).toNat))
  | .xor => K (.int k (k.wrap (BitVec.ofInt k.bits x ^^^ BitVec.ofInt k.bits y).toNat))
  | .andNot => K (.int k (k.wrap (BitVec.ofInt k.bits x &&& ~~~ BitVec.ofInt k.bits y).toNat))
  | .eql => K (.bool (x == y))
  | .neq => K (.bool (x != y))
  | .lss => K (.bool (decide (x < y)))
  | .leq => K (.bool (decide (x ≤ y)))
  | .gtr => K (.bool (decide (x > y)))
  | .geq => K (.bool (decide (x ≥ y)))
  | _ => none

def shiftOp (op : BinOp) (k : IntKind) (x y : Int) (K : LV → Option Res) : Option Res :=
  match op with
  | .shl => cond (decide (y < 0)) none (K (.int k (k.wrap (x * 2 ^ (min y.toNat k.bits)))))
  | .shr => cond (decide (y < 0)) none (K (.int k (x.fdiv (2 ^ (min y.toNat k.bits)))))
  | _ => none

def EK.beq : (k : EK) → k.den → k.den → Bool
  | .int _, x, y => (x : Int) == y
  | .bool, x, y => (x : Bool) == y
  | .str, x, y => (x : ByteArray).toList == (y : ByteArray).toList
  | .pair a b, x, y => a.beq x.1 y.1 && b.beq x.2 y.2

def lbeq (k : EK) : List k.den → List k.den → Bool
  | [], [] => true
  | x :: r, y :: s => k.beq x y && lbeq k r s
  | _, _ => false

def isLeafK : EK → Bool
  | .pair _ _ => false
  | _ => true

section eqs
variable (P : Program)

def notStruct (e : TypeId) : Bool := match P.underlying e with | some (.struct _) => false | _ => true

def eqFs (g : TypeId → TV → TV → Option Bool) : List Field → List LV → List LV → Option Bool
  | [], _, _ => some true
  | f :: r, es, es' => if f.name = "_" then none else
    match dropW es f.offset, dropW es' f.offset with
    | some q, some q' => match ldE P f.type q, ldE P f.type q' with
      | some v, some v' => match g f.type v v' with
        | some a => match r with
          | [] => some a
          | _ => match eqFs g r es es' with
            | some b => some (a && b)
            | none => none
        | none => none
      | _, _ => none
    | _, _ => none

/-- Equality of values by the type. -/
def eqT : Nat → TypeId → TV → TV → Option Bool
  | 0, _, _, _ => none
  | f + 1, t, v, v' => match P.underlying t with
    | some (.int _) => (match v, v' with
      | .lf (.int k x), .lf (.int k' y) => if k = k' then some (x == y) else none
      | _, _ => none)
    | some .bool => (match v, v' with
      | .lf (.bool x), .lf (.bool y) => some (x == y)
      | _, _ => none)
    | some .string => (match v, v' with
      | .lf (.str x), .lf (.str y) => some (x.toList == y.toList)
      | _, _ => none)
    | some (.struct fs) => (match v, v' with
      | .agg es, .agg es' => if P.stoodInHeld t then none else eqFs P (eqT f) fs.toList es es'
      | _, _ => none)
    | some (.array n e) => (match v, v' with
      | .agg [.seq k n1 l], .agg [.seq k' n2 l'] => if h : k = k' then (if isLeafK k' ∧ notStruct P e ∧ ekOf P 8 e = some k' ∧ szOf P e = 1 ∧ n1 = n ∧ n2 = n ∧ 0 < n then some (lbeq k' (castL h l) l') else none) else none
      | _, _ => none)
    | _ => none

end eqs

def intArg : Option AV → Option Int
  | some (.tv (.lf (.int _ n))) => some n
  | _ => none

def binOpV (op : BinOp) (x y : AV) (K : LV → Option Res) : Option Res :=
  match x, y with
  | .tv (.lf (.int k a)), .tv (.lf (.int k' b)) =>
    match op with
    | .shl => shiftOp .shl k a b K
    | .shr => shiftOp .shr k a b K
    | op => if k = k' then intOp op k a b K else none
  | .tv (.lf (.str a)), .tv (.lf (.str b)) =>
    match op with
    | .add => cond (decide (a.size + b.size ≤ 4611686018427387904)) (K (.str (a ++ b))) none
    | .eql => K (.bool (a.toList == b.toList))
    | .neq => K (.bool (!(a.toList == b.toList)))
    | _ => none
  | _, _ => none

def eqlV (t : TypeId) (x y : AV) : Option Bool :=
  match x, y with
  | .tv (.lf (.bool a)), .tv (.lf (.bool b)) => (match P.underlying t with
    | some .bool => some (a == b)
    | _ => none)
  | .tv (.lf .nilp), .tv (.lf .nilp) => (match P.underlying t with
    | some (.pointer _) => some true
    | _ => none)
  | .tv (.lf (.ptr _ _)), .tv (.lf .nilp) => (match P.underlying t with
    | some (.pointer _) => some false
    | _ => none)
  | .tv (.lf .nilp), .tv (.lf (.ptr _ _)) => (match P.underlying t with
    | some (.pointer _) => some false
    | _ => none)
  | .tv (.lf (.nils _)), .tv (.lf (.nils _)) => (match P.underlying t with
    | some (.slice _) => some true
    | _ => none)
  | .tv (.agg l), .tv (.agg l') => if P.eqGuardType P.depth t then none else eqT P 8 t (.agg l) (.agg l')
  | _, _ => none

/-- Fields put into a value's entries. -/
def putParts (place : Nat → Option (Nat × Nat)) : List LV → List (Nat × TV) → Option (List LV)
  | es, [] => some es
  | es, (i, v) :: r => match place i with
    | some (off, n) => if wOf v.ents = some n then (match putW es off v.ents with
      | some es' => putParts place es' r
      | none => none) else none
    | none => none

def partsOf (env : Env) (ty : Nat → TypeId) : List (Nat × Operand) → Option (List (Nat × TV))
  | [] => some []
  | (i, x) :: r => match opd P env (ty i) x with
    | some (.tv v) => match partsOf env ty r with
      | some l => some ((i, v) :: l)
      | none => none
    | _ => none

/-- Elements put into a list. -/
def putElems (k : EK) : List k.den → List (Nat × TV) → Option (List k.den)
  | l, [] => some l
  | l, (i, v) :: r => match k.of1 v.ents with
    | some x => if i < l.length then putElems k (l.set i x) r else none
    | none => none

def argVals (env : Env) : List Operand → List TypeId → Option (List TV)
  | [], _ => some []
  | x :: r, ts => match opd P env (ts.headD 0) x with
    | some (.tv v) => match argVals env r ts.tail with
      | some l => some (v :: l)
      | none => none
    | _ => none

/-- A bound of a slice expression. -/
def bnd (env : Env) (d : Int) : Option Operand → Option Int
  | none => some d
  | some x => intArg (opd P env 0 x)

/-- The first argument's type. -/
def arg0T (c : Call) : Option TypeDesc := match c.argTypes[0]? with | some t => P.underlying t | none => none

/-- The second argument's type is no number. -/
def arg1Ok (c : Call) : Bool := match c.argTypes[1]? with | some t => (match P.underlying t with | some (.slice _) => true | some .string => true | _ => false) | none => false

def capLess (c : Option Nat) (l : Nat) : Option Nat := match c with | some c => some (c - l) | none => none

/-- A slice held against nil: how many elements it shows. -/
def nilTest (h : Heap) (t : TypeId) : AV → AV → Option Nat
  | .tv (.lf (.full id)), .tv (.lf (.nils _)) => match P.underlying t, sliceForm h (.full id) with
    | some (.slice _), some (_, _, _, len, _) => some len
    | _, _ => none
  | .tv (.lf (.slice id off lo len cap)), .tv (.lf (.nils _)) => match P.underlying t with
    | some (.slice _) => some len
    | _ => none
  | _, _ => none

/-- Operations that turn no memory. -/
noncomputable def evPure (o : Oper) (env : Env) (h : Heap) (K : AV → Option Res) : Option Res :=
  match o.op with
  | .move x => match opd P env o.type x with | some v => K v | none => none
  | .assign x => match opd P env o.type x with | some v => K v | none => none
  | .pick c a b => match opd P env o.type c with
    | some (.tv (.lf (.bool t))) => cond t (match opd P env o.type a with | some v => K v | none => none) (match opd P env o.type b with | some v => K v | none => none)
    | _ => none
  | .load t a => match opd P env t a with
    | some (.tv (.lf (.ptr id off))) => match hget h id with
      | some ob => match dropW ob.es off with
        | some r => match ldE P t r with
          | some v => K (.tv v)
          | none => none
        | none => none
      | none => none
    | some (.tv (.lf (.pix id off i o2))) => match hget h id with
      | some ob => match dropW ob.es off with
        | some (.seq k _ l :: _) => match dropW (k.toLV (l.getD i k.zero)) o2 with
          | some r => match ldE P t r with
            | some v => cond (decide (i < l.length)) (K (.tv v)) none
            | none => none
          | none => none
        | _ => none
      | none => none
    | _ => none
  | .nilCheck x => match opd P env o.type x with
    | some (.tv (.lf (.ptr id off))) => K (.tv (.lf (.ptr id off)))
    | some (.tv (.lf (.pix id off i o2))) => K (.tv (.lf (.pix id off i o2)))
    | _ => none
  | .binOp op xt x y yt => match opd P env xt x, opd P env yt y with
    | some a, some b => match eqlV P xt a b with
      | some e => (match op with | .eql => K (.tv (.lf (.bool e))) | .neq => K (.tv (.lf (.bool (!e)))) | _ => none)
      | none => match nilTest P h xt a b with
        | some n => (match op with
          | .eql => cond (decide (0 < n)) (K (.tv (.lf (.bool false)))) (amb (K (.tv (.lf (.bool true)))) (K (.tv (.lf (.bool false)))))
          | .neq => cond (decide (0 < n)) (K (.tv (.lf (.bool true)))) (amb (K (.tv (.lf (.bool false)))) (K (.tv (.lf (.bool true)))))
          | _ => none)
        | none => binOpV op a b fun v => K (.tv (.lf v))
    | _, _ => none
  | .unOp op t x => match op, opd P env t x with
    | .not, some (.tv (.lf (.bool b))) => K (.tv (.lf (.bool (!b))))
    | .neg, some (.tv (.lf (.int k n))) => K (.tv (.lf (.int k (k.wrap (0 - n)))))
    | .xor, some (.tv (.lf (.int k n))) => intOp .xor k (if k.signed then -1 else k.max) n fun v => K (.tv (.lf v))
    | _, _ => none
  | .convert src dst x => match P.underlying src, P.underlying dst, opd P env src x with
    | some _, some (.int k), some (.tv (.lf (.int _ n))) => K (.tv (.lf (.int k (k.wrap n))))
    | some _, some .string, some (.tv (.lf (.str s))) => K (.tv (.lf (.str s)))
    | some (.slice e), some .string, some (.tv (.lf x)) => match P.underlying e, szOf P e, visK (.int .u8) h x with
      | some (.int .u8), 1, some l => K (.tv (.lf (.str (ofInts l))))
      | _, _, _ => none
    | _, _, _ => none
  | .slice t x lo hi mx => match opd P env t x with
    | some (.tv (.lf (.str s))) => match mx, bnd P env 0 lo, bnd P env (s.size : Int) hi, P.underlying t with
      | none, some l, some u, some .string => cond (decide (0 ≤ l ∧ l ≤ u ∧ u ≤ s.size)) (K (.tv (.lf (.str (s.extract l.toNat u.toNat))))) none
      | _, _, _, _ => none
    | some (.tv (.lf (.ptr id off))) => match P.underlying t with
      | some (.array n e) => if ewAt h id off = some (szOf P e) ∧ lenAt h id off = some n then (match mx, bnd P env 0 lo, bnd P env (n : Int) hi with
        | none, some l, some u => cond (decide (0 ≤ l ∧ l ≤ u ∧ u ≤ n)) (K (.tv (.lf (.slice id off l.toNat (u - l).toNat (some (n - l.toNat)))))) none
        | _, _, _ => none) else none
      | _ => none
    | some (.tv (.lf x)) => match sliceForm h x, P.underlying t with
      | some (id, off, a, len, cap), some (.slice e) => if ewAt h id off = some (szOf P e) then
        (match bnd P env (-1) mx, bnd P env 0 lo, bnd P env (len : Int) hi with
        | some m, some l, some u =>
          (match mx with
          | none => cond (decide (0 ≤ l ∧ l ≤ u ∧ u ≤ ((cap.getD len : Nat) : Int))) (K (.tv (.lf (.slice id off (a + l.toNat) (u - l).toNat (capLess cap l.toNat))))) none
          | some _ => match hi with
            | some _ => cond (decide (0 ≤ l ∧ l ≤ u ∧ u ≤ m ∧ m ≤ ((cap.getD len : Nat) : Int))) (K (.tv (.lf (.slice id off (a + l.toNat) (u - l).toNat (some (m - l).toNat))))) none
            | none => none)
        | _, _, _ => none) else none
      | _, _ => none
    | _ => none
  | .fieldAddr s x f => match P.underlying s, opd P env s x with
    | some (.struct fs), some (.tv (.lf (.ptr id off))) => match fs[f]? with
      | some fd => if szOf P fd.type = 0 then none else K (.tv (.lf (.ptr id (off + fd.offset))))
      | none => none
    | some (.struct fs), some (.tv (.lf (.pix id off i o2))) => match fs[f]? with
      | some fd => if szOf P fd.type = 0 then none else K (.tv (.lf (.pix id off i (o2 + fd.offset))))
      | none => none
    | _, _ => none
  | .field s x f => match P.underlying s, opd P env s x with
    | some (.struct fs), some (.tv (.agg l)) => match fs[f]? with
      | some fd => match dropW l fd.offset with
        | some r => match ldE P fd.type r with
          | some v => K (.tv v)
          | none => none
        | none => none
      | none => none
    | _, _ => none
  | .indexAddr t x ix => match P.underlying t, opd P env t x, intArg (opd P env 0 ix) with
    | some (.array n e), some (.tv (.lf (.ptr id off))), some i => if ewAt h id off = some (szOf P e) then cond (decide (0 ≤ i ∧ i < (n : Int))) (K (.tv (.lf (.pix id off i.toNat 0)))) none else none
    | some (.slice e), some (.tv (.lf x)), some i => match sliceForm h x with
      | some (id, off, lo, len, _) => if ewAt h id off = some (szOf P e) then cond (decide (0 ≤ i ∧ i < (len : Int))) (K (.tv (.lf (.pix id off (lo + i.toNat) 0)))) none else none
      | none => none
    | _, _, _ => none
  | .index t x ix => match opd P env t x, intArg (opd P env 0 ix) with
    | some (.tv (.lf (.str s))), some i => (match P.underlying t with
      | some .string => cond (decide (0 ≤ i ∧ i < (s.size : Int))) (K (.tv (.lf (.int .u8 ((s.data.getD i.toNat 0).toNat : Int))))) none
      | _ => none)
    | some (.tv (.agg [.seq k n l])), some i => (match P.underlying t with
      | some (.array n' e) => if n' = n ∧ 0 < n ∧ szOf P e = k.w then (match ldE P e (k.toLV (l.getD i.toNat k.zero)) with
        | some v => cond (decide (0 ≤ i ∧ i < (n : Int))) (K (.tv v)) none
        | none => none) else none
      | _ => none)
    | _, _ => none
  | .extract x i => match opd P env 0 x with
    | some (.tup l) => match l[i]? with
      | some v => K (.tv v)
      | none => none
    | _ => none
  | .build t parts => match P.underlying t with
    | some (.struct fs) => if !(fs.toList.all fun fd => (P.info? fd.type).isSome) then none else match zeroE P t, partsOf P env (fun i => match fs[i]? with | some fd => fd.type | none => 0) parts.toList with
      | some es, some ps => match putParts (fun i => match fs[i]? with | some fd => some (fd.offset, szOf P fd.type) | none => none) es ps with
        | some es' => K (.tv (.agg es'))
        | none => none
      | _, _ => none
    | some (.array n e) => match zeroE P t, partsOf P env (fun _ => e) parts.toList with
      | some [.seq k n' l], some ps => if szOf P e ≠ k.w then none else match putElems k l ps with
        | some l' => K (.tv (.agg [.seq k n' l']))
        | none => none
      | _, _ => none
    | _ => none
  | .call c => match c.callee with
    | .builtin .len => match argVals P env c.args.toList c.argTypes.toList, arg0T P c with
      | some [.lf (.str s)], some .string => K (.tv (.lf (.int .i64 (s.size : Int))))
      | some [.lf (.nils _)], some (.slice _) => K (.tv (.lf (.int .i64 0)))
      | some [.lf x], some (.slice _) => match sliceForm h x with
        | some (_, _, _, len, _) => K (.tv (.lf (.int .i64 (len : Int))))
        | none => none
      | _, _ => none
    | .builtin .min => match argVals P env c.args.toList c.argTypes.toList with
      | some [.lf (.int k x), .lf (.int _ y)] => K (.tv (.lf (.int k (if y < x then y else x))))
      | _ => none
    | .builtin .max => match argVals P env c.args.toList c.argTypes.toList with
      | some [.lf (.int k x), .lf (.int _ y)] => K (.tv (.lf (.int k (if y > x then y else x))))
      | _ => none
    | _ => none
  | _ => none

/-- What is known of an entry without its contents. -/
def shp : LV → Option (EK × Nat)
  | .seq k n _ => some (k, n)
  | _ => none

def shps : List LV → List (Option (EK × Nat))
  | [] => []
  | x :: r => shp x :: shps r

def allPos : List LV → Bool
  | [] => true
  | x :: r => if 0 < x.w then allPos r else false

def sameOpd : Operand → Operand → Bool
  | .tmp i, .tmp j => i == j
  | .const (.int _ a), .const (.int _ b) => a == b
  | _, _ => false

/-- Operations that make, or turn, memory. -/
def evEff (o : Oper) (env : Env) (h : Heap) (K : AV → Heap → Option Res) : Option Res :=
  match o.op with
  | .alloc t => match zeroE P t with
    | some es => K (.tv (.lf (.ptr h.length 0))) (h ++ [some ⟨false, es⟩])
    | none => none
  | .box t x => match opd P env t x with
    | some (.tv v) => K (.tv (.lf (.ptr h.length 0))) (h ++ [some ⟨false, v.ents⟩])
    | _ => none
  | .store t a x => match opd P env t a, opd P env t x with
    | some (.tv (.lf (.ptr id off))), some (.tv v) => match hget h id with
      | some ⟨false, es⟩ => if wOf v.ents = some (szOf P t) ∧ 0 < szOf P t then (match putW es off v.ents with
        | some es' => if shps es' = shps es ∧ allPos es then K .top (hset h id (some ⟨false, es'⟩)) else none
        | none => none) else none
      | _ => none
    | some (.tv (.lf (.pix id off i o2))), some (.tv v) => match hget h id with
      | some ⟨false, es⟩ => if wOf v.ents = some (szOf P t) ∧ 0 < szOf P t then (match takeW es off, dropW es off with
        | some pre, some (.seq k n l :: post) => match putW (k.toLV (l.getD i k.zero)) o2 v.ents with
          | some es' => match k.of1 es' with
            | some y => cond (decide (i < l.length)) (K .top (hset h id (some ⟨false, pre ++ .seq k n (l.set i y) :: post⟩))) none
            | none => none
          | none => none
        | _, _ => none) else none
      | _ => none
    | _, _ => none
  | .convert src dst x => match P.underlying src, P.underlying dst, opd P env src x with
    | some .string, some (.slice e), some (.tv (.lf (.str s))) => match P.underlying e, elemOf P e with
      | some (.int .u8), some ⟨.int .u8, _⟩ => K (.tv (.lf (.full h.length))) (h ++ [some ⟨false, [.seq (.int .u8) 0 (toInts s)]⟩])
      | _, _ => none
    | some (.slice _), some (.slice e), some (.tv (.lf (.full id))) => match P.underlying e, hget h id with
      | some (.int .u8), some ⟨false, [.seq _ _ l]⟩ => if src = dst then cond (decide (0 < l.length)) (K (.tv (.lf (.full id))) h) none else none
      | _, _ => none
    | _, _, _ => none
  | .makeSlice t l c => match P.underlying t, intArg (opd P env 0 l), intArg (opd P env 0 c) with
    | some (.slice e), some n, some m => match elemOf P e with
      | some ⟨k, z⟩ => cond (decide (0 ≤ n ∧ n ≤ m ∧ m ≤ 70368744177664 ∧ m * bytesOf P e ≤ 70368744177664))
          (K (.tv (.lf (if sameOpd l c then .full h.length else .slice h.length 0 0 n.toNat (some m.toNat)))) (h ++ [some ⟨false, [.seq k 0 (List.replicate m.toNat z)]⟩])) none
      | none => none
    | _, _, _ => none
  | .buildSlice t n parts => match P.underlying t with
    | some (.slice e) => match elemOf P e, partsOf P env (fun _ => e) parts.toList with
      | some ⟨k, z⟩, some ps => if n * k.w > 2 ^ 24 then none else match putElems k (List.replicate n z) ps with
        | some l => K (.tv (.lf (.full h.length))) (h ++ [some ⟨false, [.seq k 0 l]⟩])
        | none => none
      | _, _ => none
    | _ => none
  | .call c => match c.callee with
    | .builtin .append => match argVals P env c.args.toList c.argTypes.toList, arg0T P c with
      | some [.lf a, .lf b], some (.slice e) => match elemOf P e with
        | some ⟨k, _⟩ => if !arg1Ok P c then none else match visK k h b with
          | some l2 => (match a with
            | .nils _ => cond (decide (l2.length * bytesOf P e ≤ 70368744177664)) (K (.tv (.lf (.full h.length))) (h ++ [some ⟨false, [.seq k 0 l2]⟩])) none
            | .full id => match hget h id with
              | some ⟨false, [.seq k' _ l]⟩ => if hk : k' = k then
                  cond (decide ((l.length + l2.length) * bytesOf P e ≤ 70368744177664)) (K (.tv (.lf (.full h.length))) (hset h id none ++ [some ⟨false, [.seq k 0 (castL hk l ++ l2)]⟩])) none
                else none
              | _ => none
            | .slice id 0 lo len _ => match hget h id with
              | some ⟨false, [.seq k' _ l]⟩ => if hk : k' = k then
                  cond (decide ((len + l2.length) * bytesOf P e ≤ 70368744177664)) (K (.tv (.lf (.full h.length))) (hset h id none ++ [some ⟨false, [.seq k 0 (((castL hk l).drop lo).take len ++ l2)]⟩])) none
                else none
              | _ => none
            | _ => none)
          | none => none
        | none => none
      | _, _ => none
    | .builtin .copy => match argVals P env c.args.toList c.argTypes.toList, arg0T P c with
      | some [.lf d, .lf b], some (.slice e) => match sliceForm h d with
        | some (id, off, lo, len, _) => (match hget h id with
          | some ⟨false, es⟩ => match takeW es off, dropW es off with
            | some pre, some (.seq k n l :: post) => if szOf P e = k.w then match visK k h b with
              | some l2 => K (.tv (.lf (.int .i64 ((min l2.length len : Nat) : Int)))) (hset h id (some ⟨false, pre ++ .seq k n (l.take lo ++ (l2.take len ++ l.drop (lo + min l2.length len))) :: post⟩))
              | none => none
              else none
            | _, _ => none
          | _ => none)
        | none => none
      | _, _ => none
    | _ => none
  | _ => none

def isPureOp (op : Op) : Bool :=
  match op with
  | .move _ | .assign _ | .pick .. | .load .. | .nilCheck _ | .binOp .. | .unOp .. | .slice .. | .fieldAddr .. | .field .. | .indexAddr .. | .index .. | .extract .. | .build .. => true
  | .convert _ dst _ => match P.underlying dst with | some (.slice _) => false | _ => true
  | .call c => match c.callee with
    | .builtin .len | .builtin .min | .builtin .max => true
    | _ => false
  | _ => false

end eval

/-! ### Nil slices laid as objects; what can be reached; renaming -/

def matL : List LV → Heap → List LV × Heap
  | [], h => ([], h)
  | .nils (some k) :: r, h => let q := matL r (h ++ [some ⟨false, [.seq k 0 []]⟩]); (.full h.length :: q.1, q.2)
  | x :: r, h => let q := matL r h; (x :: q.1, q.2)

def matV : TV → Heap → TV × Heap
  | .lf (.nils (some k)), h => (.lf (.full h.length), h ++ [some ⟨false, [.seq k 0 []]⟩])
  | .lf x, h => (.lf x, h)
  | .agg l, h => let q := matL l h; (.agg q.1, q.2)

def matVs : List TV → Heap → List TV × Heap
  | [], h => ([], h)
  | v :: r, h => let q := matV v h; let q' := matVs r q.2; (q.1 :: q'.1, q'.2)

/-- The objects' own nil slices. -/
def matH : Nat → Nat → Heap → Heap
  | 0, _, h => h
  | n + 1, i, h => match hget h i with
    | some ⟨ro, es⟩ => let q := matL es h; matH n (i + 1) (hset q.2 i (some ⟨ro, q.1⟩))
    | none => matH n (i + 1) h

def idsOf : List LV → List Nat
  | [] => []
  | .ptr id _ :: r => id :: idsOf r
  | .pix id _ _ _ :: r => id :: idsOf r
  | .full id :: r => id :: idsOf r
  | .slice id _ _ _ _ :: r => id :: idsOf r
  | _ :: r => idsOf r

def idsOfVs : List TV → List Nat
  | [] => []
  | v :: r => idsOf v.ents ++ idsOfVs r

def memN : Nat → List Nat → Bool
  | _, [] => false
  | a, b :: r => if a = b then true else memN a r

def nodupB : List Nat → Bool
  | [] => true
  | a :: r => !memN a r && nodupB r

/-- Depth first: what can be reached, in the order in which it is met; dead objects are left out. -/
def reach (h : Heap) : Nat → List Nat → List Nat → List Nat
  | 0, _, acc => acc
  | _ + 1, [], acc => acc
  | f + 1, i :: r, acc => if memN i acc then reach h f r acc else match hget h i with
    | some o => reach h f (idsOf o.es ++ r) (acc ++ [i])
    | none => reach h f r acc

def idx : List Nat → Nat → Nat → Option Nat
  | [], _, _ => none
  | a :: r, i, x => if a = x then some i else idx r (i + 1) x

def renL (f : Nat → Option Nat) : LV → LV
  | .ptr id off => match f id with | some j => .ptr j off | none => .top
  | .pix id off i o2 => match f id with | some j => .pix j off i o2 | none => .top
  | .full id => match f id with | some j => .full j | none => .top
  | .slice id off lo len cap => match f id with | some j => .slice j off lo len cap | none => .top
  | x => x

def renLs (f : Nat → Option Nat) : List LV → List LV
  | [] => []
  | x :: r => renL f x :: renLs f r

def renV (f : Nat → Option Nat) : TV → TV
  | .lf x => .lf (renL f x)
  | .agg l => .agg (renLs f l)

def renVs (f : Nat → Option Nat) : List TV → List TV
  | [] => []
  | v :: r => renV f v :: renVs f r

def renO (f : Nat → Option Nat) : Option Ob → Option Ob
  | some ⟨ro, es⟩ => some ⟨ro, renLs f es⟩
  | none => none

def pickH (h : Heap) (f : Nat → Option Nat) : List Nat → Heap
  | [] => []
  | i :: r => renO f (hget h i) :: pickH h f r

def backIds (sel : List Nat) (base : Nat) (j : Nat) : Option Nat :=
  match sel[j]? with
  | some i => some i
  | none => some (base + (j - sel.length))

def backO (f : Nat → Option Nat) (n1 i : Nat) (o0 o : Option Ob) : Option Ob :=
  if i < n1 then (match o0, o with
    | some ⟨ra, _⟩, some ⟨_, eb⟩ => some ⟨ra, renLs f eb⟩
    | _, _ => none) else none

def newO (f : Nat → Option Nat) : Heap → Heap
  | [] => []
  | some ⟨false, es⟩ :: r => some ⟨false, renLs f es⟩ :: newO f r
  | _ :: r => none :: newO f r

/-- Behind a call: what it was handed is put back, what it made is laid behind. -/
def putBack (f : Nat → Option Nat) (n1 : Nat) : List Nat → Heap → Heap → Heap
  | i :: sel, o :: r, h => putBack f n1 sel r (hset h i (backO f n1 i (hget h i) o))
  | i :: sel, [], h => putBack f n1 sel [] (hset h i none)
  | [], new, h => h ++ newO f new

def nones : Nat → Heap
  | 0 => []
  | n + 1 => none :: nones n

def dropN : Nat → Heap → Heap
  | 0, h => h
  | _ + 1, [] => []
  | n + 1, _ :: r => dropN n r

def fuelR : Nat := 64

/-- A part of a slice is lent for reading: an object of its own, which cannot be written. -/
def lendVs : List TV → Heap → List TV × Heap × List Nat
  | [], h => ([], h, [])
  | .lf (.slice id off lo len cap) :: r, h => match vis h (.slice id off lo len cap) with
    | some ⟨k, l⟩ => let q := lendVs r (h ++ [some ⟨true, [.seq k 0 l]⟩]); (.lf (.full h.length) :: q.1, q.2.1, id :: q.2.2)
    | none => let q := lendVs r h; (.lf .top :: q.1, q.2.1, q.2.2)
  | v :: r, h => let q := lendVs r h; (v :: q.1, q.2.1, q.2.2)

def anyMem : List Nat → List Nat → Bool
  | [], _ => false
  | a :: r, l => if memN a l then true else anyMem r l

def allLtB (n : Nat) : List Nat → Bool
  | [] => true
  | a :: r => if a < n then allLtB n r else false

def roAll : Heap → Heap
  | [] => []
  | some ⟨_, es⟩ :: r => some ⟨true, es⟩ :: roAll r
  | none :: r => none :: roAll r

/-- A call: it is handed what its arguments reach, and no more. In a statement whose order is open (dr) all is lent for reading. -/
def callS (dr : Bool) (S : Summ) (args : List TV) (h : Heap) (K : List TV → Heap → Option Res) : Option Res :=
  let q := matVs args h
  let h1 := matH q.2.length 0 q.2
  let p := lendVs q.1 h1
  let sel := reach p.2.1 fuelR (idsOfVs p.1) []
  let f := idx sel 0
  let b := backIds sel p.2.1.length
  if !(nodupB sel && allLtB p.2.1.length sel) then none else
  if dr then S (renVs f p.1) (roAll (pickH p.2.1 f sel)) fun rs h2 => K (renVs b rs) (h1 ++ nones (p.2.1.length - h1.length) ++ newO b (dropN sel.length h2))
  else if anyMem p.2.2 sel then none else
  S (renVs f p.1) (pickH p.2.1 f sel) fun rs h2 => K (renVs b rs) (putBack b h1.length sel h2 (h1 ++ nones (p.2.1.length - h1.length)))

/-! ### Forcing: each of these hands on what it is given, its constructors laid bare. -/

section frc
variable {α : Type}

def frcN : Nat → (Nat → α) → α
  | 0, K => K 0
  | n + 1, K => frcN n fun m => K (m + 1)

def frcL (x : LV) (K : LV → α) : α := match x with
  | .top => K .top
  | .int k n => K (.int k n)
  | .bool b => K (.bool b)
  | .str s => K (.str s)
  | .nilp => K .nilp
  | .nils k => K (.nils k)
  | .ptr id off => frcN id fun id => frcN off fun off => K (.ptr id off)
  | .pix id off i o2 => frcN id fun id => frcN off fun off => frcN o2 fun o2 => K (.pix id off i o2)
  | .full id => frcN id fun id => K (.full id)
  | .slice id off lo len cap => frcN id fun id => frcN off fun off => (match cap with
    | none => K (.slice id off lo len none)
    | some c => K (.slice id off lo len (some c)))
  | .seq k n l => K (.seq k n l)
  | .fn f => frcN f fun f => K (.fn f)

def frcLs : List LV → (List LV → α) → α
  | [], K => K []
  | x :: r, K => frcL x fun x => frcLs r fun r => K (x :: r)

def frcV (x : TV) (K : TV → α) : α := match x with
  | .lf x => frcL x fun x => K (.lf x)
  | .agg l => frcLs l fun l => K (.agg l)

def frcVs : List TV → (List TV → α) → α
  | [], K => K []
  | x :: r, K => frcV x fun x => frcVs r fun r => K (x :: r)

def frcA (x : AV) (K : AV → α) : α := match x with
  | .tv v => frcV v fun v => K (.tv v)
  | .tup l => frcVs l fun l => K (.tup l)

def frcAs : List AV → (List AV → α) → α
  | [], K => K []
  | x :: r, K => frcA x fun x => frcAs r fun r => K (x :: r)

def frcO (x : Option Ob) (K : Option Ob → α) : α := match x with
  | none => K none
  | some ⟨ro, es⟩ => frcLs es fun es => K (some ⟨ro, es⟩)

def frcH : Heap → (Heap → α) → α
  | [], K => K []
  | x :: r, K => frcO x fun x => frcH r fun r => K (x :: r)

def frcNs : List Nat → (List Nat → α) → α
  | [], K => K []
  | x :: r, K => frcN x fun x => frcNs r fun r => K (x :: r)

def esetF : Env → Nat → AV → (Env → α) → α
  | [], _, _, K => K []
  | _ :: r, 0, v, K => K (v :: r)
  | x :: r, n + 1, v, K => esetF r n v fun r => K (x :: r)

theorem frcN_eq : ∀ (n : Nat) (K : Nat → α), frcN n K = K n
  | 0, K => rfl
  | n + 1, K => by simp only [frcN]; rw [frcN_eq n]
theorem frcL_eq (x : LV) (K : LV → α) : frcL x K = K x := by
  cases x <;> simp only [frcL, frcN_eq]
  rename_i cap
  cases cap <;> rfl
theorem frcLs_eq : ∀ (x : List LV) (K : List LV → α), frcLs x K = K x
  | [], K => rfl
  | x :: r, K => by simp only [frcLs, frcL_eq]; rw [frcLs_eq r]
theorem frcV_eq (x : TV) (K : TV → α) : frcV x K = K x := by
  cases x <;> simp only [frcV, frcL_eq, frcLs_eq]
theorem frcVs_eq : ∀ (x : List TV) (K : List TV → α), frcVs x K = K x
  | [], K => rfl
  | x :: r, K => by simp only [frcVs, frcV_eq]; rw [frcVs_eq r]
theorem frcA_eq (x : AV) (K : AV → α) : frcA x K = K x := by
  cases x <;> simp only [frcA, frcV_eq, frcVs_eq]
theorem frcAs_eq : ∀ (x : List AV) (K : List AV → α), frcAs x K = K x
  | [], K => rfl
  | x :: r, K => by simp only [frcAs, frcA_eq]; rw [frcAs_eq r]
theorem frcO_eq (x : Option Ob) (K : Option Ob → α) : frcO x K = K x := by
  cases x <;> simp only [frcO, frcLs_eq]
theorem frcH_eq : ∀ (x : Heap) (K : Heap → α), frcH x K = K x
  | [], K => rfl
  | x :: r, K => by simp only [frcH, frcO_eq]; rw [frcH_eq r]
theorem frcNs_eq : ∀ (x : List Nat) (K : List Nat → α), frcNs x K = K x
  | [], K => rfl
  | x :: r, K => by simp only [frcNs, frcN_eq]; rw [frcNs_eq r]
theorem esetF_eq : ∀ (e : Env) (i : Nat) (v : AV) (K : Env → α), esetF e i v K = K (eset e i v)
  | [], i, v, K => by cases i <;> rfl
  | x :: r, 0, v, K => rfl
  | x :: r, n + 1, v, K => by simp only [esetF, eset]; rw [esetF_eq r]

end frc

def callF (dr : Bool) (S : Summ) (args : List TV) (h : Heap) (K : List TV → Heap → Option Res) : Option Res :=
  frcVs (matVs args h).1 fun vs1 => frcH (matVs args h).2 fun hq => frcH (matH hq.length 0 hq) fun h1 =>
  frcVs (lendVs vs1 h1).1 fun vs2 => frcH (lendVs vs1 h1).2.1 fun h2 => frcNs (lendVs vs1 h1).2.2 fun ids =>
  frcNs (reach h2 fuelR (idsOfVs vs2) []) fun sel => frcN h1.length fun n1 => frcN h2.length fun n2 =>
  if !(nodupB sel && allLtB n2 sel) then none else
  if dr then frcVs (renVs (idx sel 0) vs2) fun a => frcH (roAll (pickH h2 (idx sel 0) sel)) fun ha => S a ha fun rs h3 =>
    frcVs (renVs (backIds sel n2) rs) fun rs' => frcH (h1 ++ nones (n2 - n1) ++ newO (backIds sel n2) (dropN sel.length h3)) fun h4 => K rs' h4
  else if anyMem ids sel then none else
  frcVs (renVs (idx sel 0) vs2) fun a => frcH (pickH h2 (idx sel 0) sel) fun ha => S a ha fun rs h3 =>
    frcVs (renVs (backIds sel n2) rs) fun rs' => frcH (putBack (backIds sel n2) n1 sel h3 (h1 ++ nones (n2 - n1))) fun h4 => K rs' h4

theorem callF_eq (dr : Bool) (S : Summ) (args : List TV) (h : Heap) (K : List TV → Heap → Option Res) : callF dr S args h K = callS dr S args h K := by
  simp only [callF, callS, frcVs_eq, frcH_eq, frcNs_eq, frcN_eq]

section eval2
variable (P : Program) (T : FuncId → Option Summ)

def retAV : List TV → AV
  | [v] => .tv v
  | l => .tup l

def fnOf (env : Env) : Operand → Option FuncId
  | .func f => some f
  | .tmp i => match eget env i with
    | .tv (.lf (.fn f)) => some f
    | _ => none
  | _ => none

noncomputable def evOp (dr : Bool) (o : Oper) (env : Env) (h : Heap) (K : AV → Heap → Option Res) : Option Res :=
  if isPureOp P o.op then evPure P o env h fun v => K v h
  else match o.op with
    | .call c => (match c.callee with
      | .value x => match fnOf env x with
        | some f => match T f, argVals P env c.args.toList c.argTypes.toList with
          | some S, some args => callF dr S args h fun rs h' => K (retAV rs) h'
          | _, _ => none
        | none => evEff P o env h K
      | _ => evEff P o env h K)
    | _ => evEff P o env h K

def dstSet (env : Env) (d : Option Tmp) (v : AV) : Env := match d with | some i => eset env i v | none => env

def dstF (env : Env) (d : Option Tmp) (v : AV) (h : Heap) (K : Env → Heap → Option Res) : Option Res :=
  match d with
  | some i => frcA v fun v => frcH h fun h => esetF env i v fun env => K env h
  | none => frcH h fun h => K env h

theorem dstF_eq (env : Env) (d : Option Tmp) (v : AV) (h : Heap) (K : Env → Heap → Option Res) : dstF env d v h K = K (dstSet env d v) h := by
  cases d <;> simp only [dstF, dstSet, frcA_eq, frcH_eq, esetF_eq]

/-- One operation of a region: is it wanted, and what it yields. -/
noncomputable def evStep (dr : Bool) (all : List Oper) (o : Oper) (env : Env) (h : Heap) (K : Env → Heap → Option Res) : Option Res :=
  match o.guard with
  | none => evOp P T dr o env h fun v h' => dstF env o.dst v h' K
  | some (j, want) => match all[j]? with
    | some oj => match oj.dst with
      | some s => match eget env s with
        | .tv (.lf (.bool b)) =>
          cond b
            (esetF env s (.tv (.lf (.bool true))) fun env => if want then evOp P T dr o env h fun v h' => dstF env o.dst v h' K else dstF env o.dst .top h K)
            (esetF env s (.tv (.lf (.bool false))) fun env => if want then dstF env o.dst .top h K else evOp P T dr o env h fun v h' => dstF env o.dst v h' K)
        | _ => none
      | none => none
    | none => none

noncomputable def evOps (all : List Oper) : List Oper → Env → Heap → (Env → Heap → Option Res) → Option Res
  | [], env, h, K => K env h
  | o :: r, env, h, K => evStep P T false all o env h fun env' h' => evOps all r env' h' K

def isDs (op : Op) : Bool := match op with
  | .store .. => true
  | .convert src dst _ => src == dst
  | .call c => (match c.callee with | .builtin _ => true | _ => false)
  | _ => false

/-- Operation d waits for operation i, by a chain of at most 'fuel' edges. -/
def waitsB (ops : Array Oper) (i : Nat) : Nat → Nat → Bool
  | 0, _ => false
  | fuel + 1, d => match ops[d]? with
    | some o => o.after.any fun e => Region.binds .any e && (e.on == i || waitsB ops i fuel e.on)
    | none => false

/-- Each operation that turns memory, and has not come up yet, waits for number i. -/
def lastB (ops : Array Oper) (listed : Array Bool) (i : Nat) : Bool :=
  (List.range ops.size).all fun d => d == i || listed.getD d true || !(match ops[d]? with | some o => !isPureOp P o.op && isDs o.op | none => false) || waitsB ops i ops.size d

def isMove : Op → Bool
  | .move _ => true
  | .assign _ => true
  | _ => false

def takeable (ops : Array Oper) (listed : Array Bool) (i : Nat) : Bool :=
  (match ops[i]? with | some o => isPureOp P o.op | none => false) && Region.free .any ops listed i && ((match ops[i]? with | some o => isMove o.op | none => false) || lastB P ops listed i)

/-- Orders: one that serves, or several of which each is walked. -/
inductive PT where
  | done
  | step (i : Nat) (t : PT)
  | alt (a b : PT)

def altAll : List (Option PT) → Option PT
  | [] => none
  | [x] => x
  | x :: r => match x, altAll r with
    | some a, some b => some (.alt a b)
    | _, _ => none

/-- Orders of which the walks serve all orders. -/
def planGo (ops : Array Oper) : Nat → Array Bool → Option PT
  | 0, listed => if (Region.ready .any ops listed).isEmpty then some .done else none
  | f + 1, listed => match (Region.ready .any ops listed).find? (takeable P ops listed) with
    | some i => match planGo ops f (listed.setIfInBounds i true) with
      | some t => some (.step i t)
      | none => none
    | none => altAll ((Region.ready .any ops listed).map fun i => match planGo ops f (listed.setIfInBounds i true) with
      | some t => some (.step i t)
      | none => none)

def plan (ops : Array Oper) : Option PT := if Region.noSelect ops then planGo P ops ops.size (Array.replicate ops.size false) else none

noncomputable def evPT (all : List Oper) : PT → Env → Heap → (Env → Heap → Option Res) → Option Res
  | .done, env, h, K => K env h
  | .step i t, env, h, K => match all[i]? with
    | some o => evStep P T true all o env h fun env' h' => evPT all t env' h' K
    | none => none
  | .alt a b, env, h, K => amb (evPT all a env h K) (evPT all b env h K)

inductive Xt where
  | normal | exit (id : Nat) | goto (l : Nat) | ret
  deriving DecidableEq

/-- What is known of a loop: which slots are live at its head and behind it, and what it does. -/
structure LoopS where
  live : List Nat
  out : Xt → List Nat
  run : List TV → Heap → (Xt → List AV → Heap → Option Res) → Option Res

def firstRegion : Code → Nat
  | .region id _ _ => id
  | .seq a _ => firstRegion a
  | .block _ a => firstRegion a
  | .loop a => firstRegion a
  | .scope a => firstRegion a
  | _ => 0

def topEnv : Nat → Env
  | 0 => []
  | n + 1 => .top :: topEnv n

def mkEnv (n : Nat) : List Nat → List AV → Env
  | s :: ss, v :: vs => eset (mkEnv n ss vs) s v
  | _, _ => topEnv n

def getAll (env : Env) : List Nat → List AV
  | [] => []
  | s :: r => eget env s :: getAll env r

def tvsOf : List AV → Option (List TV)
  | [] => some []
  | .tv (.lf .top) :: _ => none
  | .tv v :: r => match tvsOf r with | some l => some (v :: l) | none => none
  | _ => none

def avsOf : List TV → List AV
  | [] => []
  | v :: r => .tv v :: avsOf r

def seqN : Nat → Nat → List Nat
  | 0, _ => []
  | n + 1, i => i :: seqN n (i + 1)

def dropLt (n : Nat) : List Nat → List Nat
  | [] => []
  | i :: r => if i < n then dropLt n r else i :: dropLt n r

/-- Live values and the heap, laid out anew: nil slices become objects; the first n0 objects stay; what else is reached gets new numbers. -/
def normVs (n0 : Nat) (vs : List TV) (h : Heap) (K : List TV → Heap → Option Res) : Option Res :=
  let q := matVs vs h
  let h1 := matH q.2.length 0 q.2
  let sel := seqN n0 0 ++ dropLt n0 (reach h1 fuelR (seqN n0 0 ++ idsOfVs q.1) [])
  let f := idx sel 0
  if !nodupB sel then none else K (renVs f q.1) (pickH h1 f sel)

def normF (n0 : Nat) (vs : List TV) (h : Heap) (K : List TV → Heap → Option Res) : Option Res :=
  frcVs (matVs vs h).1 fun vs1 => frcH (matVs vs h).2 fun hq => frcH (matH hq.length 0 hq) fun h1 =>
  frcNs (seqN n0 0 ++ dropLt n0 (reach h1 fuelR (seqN n0 0 ++ idsOfVs vs1) [])) fun sel =>
  if !nodupB sel then none else frcVs (renVs (idx sel 0) vs1) fun a => frcH (pickH h1 (idx sel 0) sel) fun ha => K a ha

theorem normF_eq (n0 : Nat) (vs : List TV) (h : Heap) (K : List TV → Heap → Option Res) : normF n0 vs h K = normVs n0 vs h K := by
  simp only [normF, normVs, frcVs_eq, frcH_eq, frcNs_eq]

variable (nt n0 : Nat) (LT : Nat → Option LoopS)

def loopIn (S : LoopS) (env : Env) (h : Heap) (K : Xt → List AV → Heap → Option Res) : Option Res :=
  match Nat.ble nt env.length with
  | true => (match tvsOf (getAll env S.live) with
    | some vs => normF n0 vs h fun vs' h' => S.run vs' h' K
    | none => none)
  | false => none

/-- Out of a loop: what is live behind it. -/
def loopOut (S : LoopS) (e : Xt) (env : Env) (h : Heap) (K : Xt → List AV → Heap → Option Res) : Option Res :=
  match Nat.ble nt env.length with
  | true => K e (getAll env (S.out e)) h
  | false => none

/-- The one label of a scope. -/
def labelIn : Code → Option Nat
  | .seq a b => match labelIn a with
    | some l => some l
    | none => labelIn b
  | .label l => some l
  | _ => none

/-- Where a label's summary stands. -/
def lkey (l : Nat) : Nat := l + 1000000

noncomputable def evC : Code → Env → Heap → (Xt → Env → Heap → Option Res) → Option Res
  | .skip, env, h, K => K .normal env h
  | .region _ ops dr, env, h, K => match dr with
    | false => evOps P T ops.toList ops.toList env h fun env' h' => K .normal env' h'
    | true => match plan P ops with
      | some l => evPT P T ops.toList l env h fun env' h' => K .normal env' h'
      | none => none
  | .seq a b, env, h, K => evC a env h fun e env' h' => match e with
    | .normal => evC b env' h' K
    | .exit i => K (.exit i) env' h'
    | .goto i => K (.goto i) env' h'
    | .ret => K .ret env' h'
  | .cond c a b, env, h, K => match opd P env 0 c with
    | some (.tv (.lf (.bool t))) => cond t (evC a env h K) (evC b env h K)
    | _ => none
  | .block id b, env, h, K => evC b env h fun e env' h' => match e with
    | .exit j => if j = id then K .normal env' h' else K (.exit j) env' h'
    | .normal => K .normal env' h'
    | .goto i => K (.goto i) env' h'
    | .ret => K .ret env' h'
  | .loop b, env, h, K => match LT (firstRegion b) with
    | some S => loopIn nt n0 S env h fun e vs' h' => frcAs (mkEnv nt (S.out e) vs') fun env => frcH h' fun h' => K e env h'
    | none => none
  | .exit id, env, h, K => K (.exit id) env h
  | .goto l, env, h, K => K (.goto l) env h
  | .ret, env, h, K => K .ret env h
  | .label _, env, h, K => K .normal env h
  | .scope b, env, h, K => evC b env h fun e env' h' => match e with
    | .goto l => if labelIn b ≠ some l then none else (match LT (lkey l) with
      | some S => loopIn nt n0 S env' h' fun e vs' h' => frcAs (mkEnv nt (S.out e) vs') fun env => frcH h' fun h' => K e env h'
      | none => none)
    | .exit i => K (.exit i) env' h'
    | .normal => K .normal env' h'
    | .ret => K .ret env' h'
  | _, _, _, _ => none

/-- One round of a loop. -/
noncomputable def roundOf (S : LoopS) (b : Code) (vs : List TV) (h : Heap) (K : Xt → List AV → Heap → Option Res) : Option Res :=
  frcAs (mkEnv nt S.live (avsOf vs)) fun env => evC P T nt n0 LT b env h fun e env' h' => match e with
    | .normal => loopIn nt n0 S env' h' K
    | .exit i => loopOut nt S (.exit i) env' h' K
    | .goto i => loopOut nt S (.goto i) env' h' K
    | .ret => loopOut nt S .ret env' h' K

/-- One pass from a label on. -/
noncomputable def passOf (S : LoopS) (l : Nat) (b : Code) (vs : List TV) (h : Heap) (K : Xt → List AV → Heap → Option Res) : Option Res :=
  frcAs (mkEnv nt S.live (avsOf vs)) fun env => evC P T nt n0 LT b env h fun e env' h' => match e with
    | .goto i => if i = l then loopIn nt n0 S env' h' K else none
    | .normal => loopOut nt S .normal env' h' K
    | .exit i => loopOut nt S (.exit i) env' h' K
    | .ret => loopOut nt S .ret env' h' K

def resVals (env : Env) (h : Heap) : List ResultVar → Option (List TV)
  | [] => some []
  | .tmp t :: r => match eget env t, resVals env h r with
    | .tv (.lf .top), _ => none
    | .tv v, some l => some (v :: l)
    | _, _ => none
  | .cell a t :: r => match eget env a with
    | .tv (.lf (.ptr id off)) => match hget h id with
      | some ob => match dropW ob.es off with
        | some q => match ldE P t q, resVals env h r with
          | some v, some l => some (v :: l)
          | _, _ => none
        | none => none
      | none => none
    | _ => none

def argEnv : Nat → List TV → Env
  | 0, _ => []
  | n + 1, [] => .top :: argEnv n []
  | n + 1, v :: r => .tv v :: argEnv n r

noncomputable def evBody (c : Code) (rv : List ResultVar) (args : List TV) (h : Heap) (K : List TV → Heap → Option Res) : Option Res :=
  frcAs (argEnv nt args) fun env => evC P T nt n0 LT c env h fun e env h' =>
    match e with
    | .normal => (match resVals P env h' rv with
      | some vs => normF n0 vs h' K
      | none => none)
    | .ret => (match resVals P env h' rv with
      | some vs => normF n0 vs h' K
      | none => none)
    | _ => none

end eval2
end Go.Proofs.Ytlokielmpdjedaa.Ev
