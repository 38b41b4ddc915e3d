/- Merged: EvCore, EvS1, EvS2, EvS3, EvS4, EvS5, EvS6, EvS7. -/
import Derived.WalkKit
import Derived.Still
import Derived.RangeFuncLeaves
import Derived.RangeFuncCalls
import Derived.LoopNIn
import Derived.RegionIn
section
namespace Go.Proofs.Ytjhpadklfeipaaa.Ev
open Go
set_option linter.unusedVariables false
set_option linter.unusedSimpArgs false
set_option linter.unusedSectionVars false
section
inductive SK where
  | int (k : IntKind) | bool | str
  deriving DecidableEq
@[reducible] def SK.den : SK → Type
  | .int _ => Int
  | .bool => Bool
  | .str => ByteArray
def SK.cv : (q : SK) → q.den → Value
  | .int k, n => .int k n
  | .bool, b => .bool b
  | .str, s => .string s
class FZ where
  ok : Option Addr → Nat → List Value → Prop
structure Sl [FZ] (q : SK) where
  a : Option Addr
  cap : Nat
  dat : List q.den
  ok : (a = none ∧ cap = 0 ∧ dat = []) ∨ FZ.ok a cap (dat.map q.cv)
variable [FZ]
def Sl.nil (q : SK) : Sl q := ⟨none, 0, [], .inl ⟨rfl, rfl, rfl⟩⟩
inductive EK where
  | int (k : IntKind) | bool | str | pair (a b : EK) | sl (q : SK)
  deriving DecidableEq
@[reducible] def EK.den : EK → Type
  | .int _ => Int
  | .bool => Bool
  | .str => ByteArray
  | .pair a b => EK.den a × EK.den b
  | .sl q => Sl q
@[reducible] def SK.ek : SK → EK
  | .int k => .int k
  | .bool => .bool
  | .str => .str
def SK.toL : (q : SK) → List q.den → List q.ek.den
  | .int _, l => l
  | .bool, l => l
  | .str, l => l
def EK.w : EK → Nat
  | .pair a b => a.w + b.w
  | _ => 1
def EK.zero : (k : EK) → k.den
  | .int _ => (0 : Int)
  | .bool => false
  | .str => ByteArray.empty
  | .pair a b => (a.zero, b.zero)
  | .sl q => Sl.nil q
inductive LV where
  | top
  | int (k : IntKind) (n : Int)
  | bool (b : Bool)
  | str (s : ByteArray)
  | nilp
  | nils (k : Option EK)
  | ptr (id off : Nat)
  | pix (id off i o2 : Nat)
  | full (id : Nat)
  | slice (id off lo len : Nat) (cap : Option Nat)
  | fn (f : Nat)
  | seq (k : EK) (n : Nat) (l : List k.den)
  | sl (q : SK) (x : Sl q)
  | clo (f : Nat) (ids : List Nat)
  | yld (id : Nat)
  | nilf
  | flt (k : FloatKind) (b : Nat)
  | nan (k : FloatKind)
inductive TV where
  | lf (x : LV)
  | agg (l : List LV)
inductive AV where
  | tv (v : TV)
  | tup (l : List TV)
abbrev AV.top : AV := .tv (.lf .top)
def TV.ents : TV → List LV
  | .lf x => [x]
  | .agg l => l
def EK.toLV : (k : EK) → k.den → List LV
  | .int k, n => [.int k n]
  | .bool, b => [.bool b]
  | .str, s => [.str s]
  | .pair a b, p => a.toLV p.1 ++ b.toLV p.2
  | .sl q, x => [.sl q x]
def castS {a b : SK} (h : a = b) (x : Sl a) : Sl b := h ▸ x
def EK.ofLV : (k : EK) → List LV → Option (k.den × List LV)
  | .int k, .int k' n :: r => if k = k' then some (n, r) else none
  | .bool, .bool b :: r => some (b, r)
  | .str, .str s :: r => some (s, r)
  | .pair a b, l => match a.ofLV l with
    | some (x, r) => match b.ofLV r with
      | some (y, r') => some ((x, y), r')
      | none => none
    | none => none
  | .sl q, .sl q' x :: r => if h : q' = q then some (castS h x, r) else none
  | .sl q, .nils _ :: r => some (Sl.nil q, r)
  | _, _ => none
def EK.of1 (k : EK) (l : List LV) : Option k.den :=
  match k.ofLV l with
  | some (x, []) => some x
  | _ => none
def LV.w : LV → Nat
  | .seq k n _ => n * k.w
  | _ => 1
def dropW : List LV → Nat → Option (List LV)
  | l, 0 => some l
  | [], _ + 1 => none
  | x :: r, n + 1 => if 0 < x.w ∧ x.w ≤ n + 1 then dropW r (n + 1 - x.w) else none
def takeW : List LV → Nat → Option (List LV)
  | _, 0 => some []
  | [], _ + 1 => none
  | x :: r, n + 1 => if 0 < x.w ∧ x.w ≤ n + 1 then (match takeW r (n + 1 - x.w) with | some l => some (x :: l) | none => none) else none
def wOf : List LV → Option Nat
  | [] => some 0
  | x :: r => if 0 < x.w then (match wOf r with | some n => some (x.w + n) | none => none) else none
def putW (l : List LV) (off : Nat) (new : List LV) : Option (List LV) :=
  match wOf new with
  | some n => match takeW l off, dropW l off with
    | some a, some b => match dropW b n with
      | some c => some (a ++ (new ++ c))
      | none => none
    | _, _ => none
  | none => none
structure Ob where
  ro : Bool
  es : List LV
abbrev Heap := List (Option Ob)
def hget : Heap → Nat → Option Ob
  | [], _ => none
  | x :: _, 0 => x
  | _ :: r, n + 1 => hget r n
def hset : Heap → Nat → Option Ob → Heap
  | [], _, _ => []
  | _ :: r, 0, o => o :: r
  | x :: r, n + 1, o => x :: hset r n o
abbrev Env := List AV
def eget : Env → Nat → AV
  | [], _ => .top
  | x :: _, 0 => x
  | _ :: r, n + 1 => eget r n
def eset : Env → Nat → AV → Env
  | [], _, _ => []
  | _ :: r, 0, o => o :: r
  | x :: r, n + 1, o => x :: eset r n o
abbrev Res := List TV × Heap
abbrev Summ := List TV → Heap → (List TV → Heap → Option Res) → Option Res
noncomputable def amb {β : Type} (x y : Option β) : Option β := @ite _ (x = y) (Classical.propDecidable _) x none
theorem amb_some {β : Type} {x y : Option β} {r : β} (h : amb x y = some r) : x = some r ∧ y = some r := by
  unfold amb at h
  split at h
  · rename_i e; exact ⟨h, e ▸ h⟩
  · cases h
section types
variable (P : Program)
def szOf (t : TypeId) : Nat := match P.info? t with | some i => i.size | none => 0
def bytesOf (t : TypeId) : Nat := match P.info? t with | some i => i.bytes | none => 0
def isAggT (t : TypeId) : Bool := match P.underlying t with | some (.struct _) | some (.array _ _) => true | _ => false
def pairs : List EK → Option EK
  | [] => none
  | [k] => some k
  | k :: r => match pairs r with | some q => some (.pair k q) | none => none
def allSome {α : Type} : List (Option α) → Option (List α)
  | [] => some []
  | some x :: r => match allSome r with | some l => some (x :: l) | none => none
  | none :: _ => none
def ekOf : Nat → TypeId → Option EK
  | 0, _ => none
  | f + 1, t => match P.underlying t with
    | some (.int k) => some (.int k)
    | some .bool => some .bool
    | some .string => some .str
    | some (.struct fs) => match allSome (fs.toList.map fun x => ekOf f x.type) with
      | some l => pairs l
      | none => none
    | some (.slice e) => match P.underlying e with
      | some (.int k) => some (.sl (.int k))
      | some .bool => some (.sl .bool)
      | some .string => some (.sl .str)
      | _ => none
    | _ => none
def elemK (t : TypeId) : Option EK := match P.underlying t with
  | some (.slice e) => ekOf P 8 e
  | _ => none
def constL (g : List Value → Option (List LV × List Value)) (k : EK) : Nat → List Value → Option (List k.den × List Value)
  | 0, vs => some ([], vs)
  | m + 1, vs => match g vs with
    | some (es, r) => match k.of1 es with
      | some x => match constL g k m r with
        | some (l, r') => some (x :: l, r')
        | none => none
      | none => none
    | none => none
def constF (g : TypeId → List Value → Option (List LV × List Value)) : List TypeId → List Value → Option (List LV × List Value)
  | [], vs => some ([], vs)
  | x :: xs, vs => match g x vs with
    | some (es, r) => match constF g xs r with
      | some (l, r') => some (es ++ l, r')
      | none => none
    | none => none
def constE : Nat → TypeId → List Value → Option (List LV × List Value)
  | 0, _, _ => none
  | f + 1, t, vs => match P.underlying t with
    | some (.struct fs) => constF (constE f) (fs.toList.map (·.type)) vs
    | some (.array n e) => match ekOf P 8 e with
      | some k => match constL (constE f e) k n vs with
        | some (l, r) => some ([.seq k n l], r)
        | none => none
      | none => none
    | some (.slice e) => match vs with
      | .slice none 0 0 :: r => some ([.nils (ekOf P 8 e)], r)
      | _ => none
    | _ => match vs with
      | .int k n :: r => some ([.int k n], r)
      | .float k n :: r => some ([.flt k n], r)
      | .bool b :: r => some ([.bool b], r)
      | .string s :: r => some ([.str s], r)
      | .pointer none :: r => some ([.nilp], r)
      | _ => none
def zeroE (t : TypeId) : Option (List LV) := match P.info? t with
  | some i => match i.zero with
    | some v => match constE P 8 t v.cells.toList with
      | some (l, []) => some l
      | _ => none
    | none => none
  | none => none
def elemOf (e : TypeId) : Option ((k : EK) × k.den) := match ekOf P 8 e with
  | some k => if szOf P e = k.w ∧ 0 < bytesOf P e then (match zeroE P e with
    | some es => match k.of1 es with
      | some z => some ⟨k, z⟩
      | none => none
    | none => none) else none
  | none => none
def constTV (t : TypeId) (v : Value) : Option TV :=
  match v with
  | .agg cs => match constE P 8 t cs.toList with
    | some (l, []) => some (.agg l)
    | _ => none
  | .int k n => some (.lf (.int k n))
  | .float k n => some (.lf (.flt k n))
  | .bool b => some (.lf (.bool b))
  | .string s => some (.lf (.str s))
  | .pointer none => some (.lf .nilp)
  | .slice none 0 0 => some (.lf (.nils (elemK P t)))
  | .nilFunc => some (.lf .nilf)
  | _ => none
def opd (env : Env) (t : TypeId) : Operand → Option AV
  | .tmp i => match eget env i with
    | .tv (.lf .top) => none
    | v => some v
  | .const v => match constTV P t v with | some x => some (.tv x) | none => none
  | .func f => some (.tv (.lf (.fn f)))
  | _ => none
def ldE (t : TypeId) (es : List LV) : Option TV :=
  if isAggT P t then (match takeW es (szOf P t) with | some l => some (.agg l) | none => none)
  else match P.underlying t with
    | none => none
    | some _ => match es with
      | .seq _ _ _ :: _ => none
      | x :: _ => some (.lf x)
      | [] => none
end types
def ofInts (l : List Int) : ByteArray := ⟨(l.map fun n => UInt8.ofNat n.toNat).toArray⟩
def toInts (s : ByteArray) : List Int := s.data.toList.map fun c => (c.toNat : Int)
section eval
variable (P : Program)
def castL {a b : EK} (h : a = b) (l : List a.den) : List b.den := h ▸ l
def sliceForm (h : Heap) : LV → Option (Nat × Nat × Nat × Nat × Option Nat)
  | .slice id off lo len cap => some (id, off, lo, len, cap)
  | .full id => match hget h id with
    | some o => match o.es with
      | [.seq _ _ l] => some (id, 0, 0, l.length, none)
      | _ => none
    | none => none
  | _ => none
def ewAt (h : Heap) (id off : Nat) : Option Nat := match hget h id with
  | some o => match dropW o.es off with
    | some (.seq k _ _ :: _) => some k.w
    | _ => none
  | none => none
def lenAt (h : Heap) (id off : Nat) : Option Nat := match hget h id with
  | some o => match dropW o.es off with
    | some (.seq _ n _ :: _) => if 0 < n then some n else none
    | _ => none
  | none => none
def vis (h : Heap) (x : LV) : Option ((k : EK) × List k.den) :=
  match x with
  | .full id => match hget h id with
    | some o => match o.es with
      | [.seq k _ l] => some ⟨k, l⟩
      | _ => none
    | none => none
  | .slice id off lo len _ => match hget h id with
    | some o => match dropW o.es off with
      | some (.seq k _ l :: _) => some ⟨k, (l.drop lo).take len⟩
      | _ => none
    | none => none
  | _ => none
def visK (k : EK) (h : Heap) (x : LV) : Option (List k.den) :=
  match x with
  | .nils _ => some []
  | .str s => if hk : EK.int .u8 = k then some (castL hk (toInts s)) else none
  | .sl q x => if hk : q.ek = k then some (castL hk (q.toL x.dat)) else none
  | x => match vis h x with
    | some ⟨k', l⟩ => if hk : k' = k then some (castL hk l) else none
    | none => none
def intOp (op : BinOp) (k : IntKind) (x y : Int) (K : LV → Option Res) : Option Res :=
  match op with
  | .add => K (.int k (k.wrap (x + y)))
  | .sub => K (.int k (k.wrap (x - y)))
  | .mul => K (.int k (k.wrap (x * y)))
  | .quo => cond (decide (y = 0)) none (K (.int k (k.wrap (x.tdiv y))))
  | .rem => cond (decide (y = 0)) none (K (.int k (x.tmod y)))
  | .and => K (.int k (k.wrap (BitVec.ofInt k.bits x &&& BitVec.ofInt k.bits y).toNat))
  | .or => K (.int k (k.wrap (BitVec.ofInt k.bits x ||| BitVec.ofInt k.bits y).toNat))
  | .xor => K (.int k (k.wrap (BitVec.ofInt k.bits x ^^^ BitVec.ofInt k.bits y).toNat))
  | .andNot => K (.int k (k.wrap (BitVec.ofInt k.bits x &&& ~~~ BitVec.ofInt k.bits y).toNat))
  | .eql => K (.bool (x == y))
  | .neq => K (.bool (x != y))
  | .lss => K (.bool (decide (x < y)))
  | .leq => K (.bool (decide (x ≤ y)))
  | .gtr => K (.bool (decide (x > y)))
  | .geq => K (.bool (decide (x ≥ y)))
  | _ => none
def fquo {α : Type} (k : FloatKind) (x y : Nat) (K : Nat → Option α) (N : Option α) : Option α := match k.format.div x y with | some r => K r | none => N
def nanOp (op : BinOp) (K : LV → Option Res) : Option Res :=
  match op with
  | .eql => K (.bool false)
  | .neq => K (.bool true)
  | _ => none
def fltOp (op : BinOp) (k : FloatKind) (x y : Nat) (K : LV → Option Res) : Option Res :=
  match op with
  | .eql => K (.bool (k.format.order x y == some .eq))
  | .neq => K (.bool (k.format.order x y != some .eq))
  | _ => none
def shiftOp (op : BinOp) (k : IntKind) (x y : Int) (K : LV → Option Res) : Option Res :=
  match op with
  | .shl => cond (decide (y < 0)) none (K (.int k (k.wrap (x * 2 ^ (min y.toNat k.bits)))))
  | .shr => cond (decide (y < 0)) none (K (.int k (x.fdiv (2 ^ (min y.toNat k.bits)))))
  | _ => none
def EK.beq : (k : EK) → k.den → k.den → Bool
  | .int _, x, y => (x : Int) == y
  | .bool, x, y => (x : Bool) == y
  | .str, x, y => (x : ByteArray).toList == (y : ByteArray).toList
  | .pair a b, x, y => a.beq x.1 y.1 && b.beq x.2 y.2
  | .sl _, _, _ => false
def lbeq (k : EK) : List k.den → List k.den → Bool
  | [], [] => true
  | x :: r, y :: s => k.beq x y && lbeq k r s
  | _, _ => false
def isLeafK : EK → Bool
  | .pair _ _ => false
  | .sl _ => false
  | _ => true
section eqs
variable (P : Program)
def notStruct (e : TypeId) : Bool := match P.underlying e with | some (.struct _) => false | _ => true
def eqFs (g : TypeId → TV → TV → Option Bool) : List Field → List LV → List LV → Option Bool
  | [], _, _ => some true
  | f :: r, es, es' => if f.name = "_" then none else
    match dropW es f.offset, dropW es' f.offset with
    | some q, some q' => match ldE P f.type q, ldE P f.type q' with
      | some v, some v' => match g f.type v v' with
        | some a => match r with
          | [] => some a
          | _ => match eqFs g r es es' with
            | some b => some (a && b)
            | none => none
        | none => none
      | _, _ => none
    | _, _ => none
def eqT : Nat → TypeId → TV → TV → Option Bool
  | 0, _, _, _ => none
  | f + 1, t, v, v' => match P.underlying t with
    | some (.int _) => (match v, v' with
      | .lf (.int k x), .lf (.int k' y) => if k = k' then some (x == y) else none
      | _, _ => none)
    | some .bool => (match v, v' with
      | .lf (.bool x), .lf (.bool y) => some (x == y)
      | _, _ => none)
    | some .string => (match v, v' with
      | .lf (.str x), .lf (.str y) => some (x.toList == y.toList)
      | _, _ => none)
    | some (.struct fs) => (match v, v' with
      | .agg es, .agg es' => if P.stoodInHeld t then none else eqFs P (eqT f) fs.toList es es'
      | _, _ => none)
    | some (.array n e) => (match v, v' with
      | .agg [.seq k n1 l], .agg [.seq k' n2 l'] => if h : k = k' then (if isLeafK k' ∧ notStruct P e ∧ ekOf P 8 e = some k' ∧ szOf P e = 1 ∧ n1 = n ∧ n2 = n ∧ 0 < n then some (lbeq k' (castL h l) l') else none) else none
      | _, _ => none)
    | _ => none
end eqs
def intArg : Option AV → Option Int
  | some (.tv (.lf (.int _ n))) => some n
  | _ => none
def binOpV (op : BinOp) (x y : AV) (K : LV → Option Res) : Option Res :=
  match x, y with
  | .tv (.lf (.int k a)), .tv (.lf (.int k' b)) =>
    match op with
    | .shl => shiftOp .shl k a b K
    | .shr => shiftOp .shr k a b K
    | op => if k = k' then intOp op k a b K else none
  | .tv (.lf (.flt k a)), .tv (.lf (.flt k' b)) => if k = k' then fltOp op k a b K else none
  | .tv (.lf (.nan k)), .tv (.lf (.flt k' b)) => if k = k' then nanOp op K else none
  | .tv (.lf (.flt k a)), .tv (.lf (.nan k')) => if k = k' then nanOp op K else none
  | .tv (.lf (.nan k)), .tv (.lf (.nan k')) => if k = k' then nanOp op K else none
  | .tv (.lf (.str a)), .tv (.lf (.str b)) =>
    match op with
    | .add => cond (decide (a.size + b.size ≤ 4611686018427387904)) (K (.str (a ++ b))) none
    | .eql => K (.bool (a.toList == b.toList))
    | .neq => K (.bool (!(a.toList == b.toList)))
    | _ => none
  | _, _ => none
def eqlV (t : TypeId) (x y : AV) : Option Bool :=
  match x, y with
  | .tv (.lf (.bool a)), .tv (.lf (.bool b)) => (match P.underlying t with
    | some .bool => some (a == b)
    | _ => none)
  | .tv (.lf .nilp), .tv (.lf .nilp) => (match P.underlying t with
    | some (.pointer _) => some true
    | _ => none)
  | .tv (.lf (.ptr _ _)), .tv (.lf .nilp) => (match P.underlying t with
    | some (.pointer _) => some false
    | _ => none)
  | .tv (.lf .nilp), .tv (.lf (.ptr _ _)) => (match P.underlying t with
    | some (.pointer _) => some false
    | _ => none)
  | .tv (.lf (.nils _)), .tv (.lf (.nils _)) => (match P.underlying t with
    | some (.slice _) => some true
    | _ => none)
  | .tv (.agg l), .tv (.agg l') => if P.eqGuardType P.depth t then none else eqT P 8 t (.agg l) (.agg l')
  | _, _ => none
def putParts (place : Nat → Option (Nat × Nat)) : List LV → List (Nat × TV) → Option (List LV)
  | es, [] => some es
  | es, (i, v) :: r => match place i with
    | some (off, n) => if wOf v.ents = some n then (match putW es off v.ents with
      | some es' => putParts place es' r
      | none => none) else none
    | none => none
def partsOf (env : Env) (ty : Nat → TypeId) : List (Nat × Operand) → Option (List (Nat × TV))
  | [] => some []
  | (i, x) :: r => match opd P env (ty i) x with
    | some (.tv v) => match partsOf env ty r with
      | some l => some ((i, v) :: l)
      | none => none
    | _ => none
def putElems (k : EK) : List k.den → List (Nat × TV) → Option (List k.den)
  | l, [] => some l
  | l, (i, v) :: r => match k.of1 v.ents with
    | some x => if i < l.length then putElems k (l.set i x) r else none
    | none => none
def argVals (env : Env) : List Operand → List TypeId → Option (List TV)
  | [], _ => some []
  | x :: r, ts => match opd P env (ts.headD 0) x with
    | some (.tv v) => match argVals env r ts.tail with
      | some l => some (v :: l)
      | none => none
    | _ => none
def bnd (env : Env) (d : Int) : Option Operand → Option Int
  | none => some d
  | some x => intArg (opd P env 0 x)
def arg0T (c : Call) : Option TypeDesc := match c.argTypes[0]? with | some t => P.underlying t | none => none
def arg1Ok (c : Call) : Bool := match c.argTypes[1]? with | some t => (match P.underlying t with | some (.slice _) => true | some .string => true | _ => false) | none => false
def capLess (c : Option Nat) (l : Nat) : Option Nat := match c with | some c => some (c - l) | none => none
def boxIds : List TV → Option (List Nat)
  | [] => some []
  | .lf (.ptr id 0) :: r => (match boxIds r with
    | some l => some (id :: l)
    | none => none)
  | _ => none
def nilTest (h : Heap) (t : TypeId) : AV → AV → Option Nat
  | .tv (.lf (.full id)), .tv (.lf (.nils _)) => match P.underlying t, sliceForm h (.full id) with
    | some (.slice _), some (_, _, _, len, _) => some len
    | _, _ => none
  | .tv (.lf (.slice id off lo len cap)), .tv (.lf (.nils _)) => match P.underlying t with
    | some (.slice _) => some len
    | _ => none
  | _, _ => none
noncomputable def evPure (o : Oper) (env : Env) (h : Heap) (K : AV → Option Res) : Option Res :=
  match o.op with
  | .move x => match opd P env o.type x with | some v => K v | none => none
  | .assign x => match opd P env o.type x with | some v => K v | none => none
  | .pick c a b => match opd P env o.type c with
    | some (.tv (.lf (.bool t))) => cond t (match opd P env o.type a with | some v => K v | none => none) (match opd P env o.type b with | some v => K v | none => none)
    | _ => none
  | .load t a => match opd P env t a with
    | some (.tv (.lf (.ptr id off))) => match hget h id with
      | some ob => match dropW ob.es off with
        | some r => match ldE P t r with
          | some v => K (.tv v)
          | none => none
        | none => none
      | none => none
    | some (.tv (.lf (.pix id off i o2))) => match hget h id with
      | some ob => match dropW ob.es off with
        | some (.seq k _ l :: _) => match dropW (k.toLV (l.getD i k.zero)) o2 with
          | some r => match ldE P t r with
            | some v => cond (decide (i < l.length)) (K (.tv v)) none
            | none => none
          | none => none
        | _ => none
      | none => none
    | _ => none
  | .nilCheck x => match opd P env o.type x with
    | some (.tv (.lf (.ptr id off))) => K (.tv (.lf (.ptr id off)))
    | some (.tv (.lf (.pix id off i o2))) => K (.tv (.lf (.pix id off i o2)))
    | _ => none
  | .binOp op xt x y yt => match opd P env xt x, opd P env yt y with
    | some a, some b => match eqlV P xt a b with
      | some e => (match op with | .eql => K (.tv (.lf (.bool e))) | .neq => K (.tv (.lf (.bool (!e)))) | _ => none)
      | none => match nilTest P h xt a b with
        | some n => (match op with
          | .eql => cond (decide (0 < n)) (K (.tv (.lf (.bool false)))) (amb (K (.tv (.lf (.bool true)))) (K (.tv (.lf (.bool false)))))
          | .neq => cond (decide (0 < n)) (K (.tv (.lf (.bool true)))) (amb (K (.tv (.lf (.bool false)))) (K (.tv (.lf (.bool true)))))
          | _ => none)
        | none => binOpV op a b fun v => K (.tv (.lf v))
    | _, _ => none
  | .unOp op t x => match op, opd P env t x with
    | .not, some (.tv (.lf (.bool b))) => K (.tv (.lf (.bool (!b))))
    | .neg, some (.tv (.lf (.int k n))) => K (.tv (.lf (.int k (k.wrap (0 - n)))))
    | .xor, some (.tv (.lf (.int k n))) => intOp .xor k (if k.signed then -1 else k.max) n fun v => K (.tv (.lf v))
    | _, _ => none
  | .convert src dst x => match P.underlying src, P.underlying dst, opd P env src x with
    | some _, some (.int k), some (.tv (.lf (.int _ n))) => K (.tv (.lf (.int k (k.wrap n))))
    | some _, some .string, some (.tv (.lf (.str s))) => K (.tv (.lf (.str s)))
    | some _, some (.float k), some (.tv (.lf (.int _ n))) => K (.tv (.lf (.flt k (k.nearest n))))
    | some (.slice e), some .string, some (.tv (.lf x)) => match P.underlying e, szOf P e, visK (.int .u8) h x with
      | some (.int .u8), 1, some l => K (.tv (.lf (.str (ofInts l))))
      | _, _, _ => none
    | _, _, _ => none
  | .slice t x lo hi mx => match opd P env t x with
    | some (.tv (.lf (.str s))) => match mx, bnd P env 0 lo, bnd P env (s.size : Int) hi, P.underlying t with
      | none, some l, some u, some .string => cond (decide (0 ≤ l ∧ l ≤ u ∧ u ≤ s.size)) (K (.tv (.lf (.str (s.extract l.toNat u.toNat))))) none
      | _, _, _, _ => none
    | some (.tv (.lf (.ptr id off))) => match P.underlying t with
      | some (.array n e) => if ewAt h id off = some (szOf P e) ∧ lenAt h id off = some n then (match mx, bnd P env 0 lo, bnd P env (n : Int) hi with
        | none, some l, some u => cond (decide (0 ≤ l ∧ l ≤ u ∧ u ≤ n)) (K (.tv (.lf (.slice id off l.toNat (u - l).toNat (some (n - l.toNat)))))) none
        | _, _, _ => none) else none
      | _ => none
    | some (.tv (.lf x)) => match sliceForm h x, P.underlying t with
      | some (id, off, a, len, cap), some (.slice e) => if ewAt h id off = some (szOf P e) then
        (match bnd P env (-1) mx, bnd P env 0 lo, bnd P env (len : Int) hi with
        | some m, some l, some u =>
          (match mx with
          | none => cond (decide (0 ≤ l ∧ l ≤ u ∧ u ≤ ((cap.getD len : Nat) : Int))) (K (.tv (.lf (.slice id off (a + l.toNat) (u - l).toNat (capLess cap l.toNat))))) none
          | some _ => match hi with
            | some _ => cond (decide (0 ≤ l ∧ l ≤ u ∧ u ≤ m ∧ m ≤ ((cap.getD len : Nat) : Int))) (K (.tv (.lf (.slice id off (a + l.toNat) (u - l).toNat (some (m - l).toNat))))) none
            | none => none)
        | _, _, _ => none) else none
      | _, _ => none
    | _ => none
  | .fieldAddr s x f => match P.underlying s, opd P env s x with
    | some (.struct fs), some (.tv (.lf (.ptr id off))) => match fs[f]? with
      | some fd => if szOf P fd.type = 0 then none else K (.tv (.lf (.ptr id (off + fd.offset))))
      | none => none
    | some (.struct fs), some (.tv (.lf (.pix id off i o2))) => match fs[f]? with
      | some fd => if szOf P fd.type = 0 then none else K (.tv (.lf (.pix id off i (o2 + fd.offset))))
      | none => none
    | _, _ => none
  | .field s x f => match P.underlying s, opd P env s x with
    | some (.struct fs), some (.tv (.agg l)) => match fs[f]? with
      | some fd => match dropW l fd.offset with
        | some r => match ldE P fd.type r with
          | some v => K (.tv v)
          | none => none
        | none => none
      | none => none
    | _, _ => none
  | .indexAddr t x ix => match P.underlying t, opd P env t x, intArg (opd P env 0 ix) with
    | some (.array n e), some (.tv (.lf (.ptr id off))), some i => if ewAt h id off = some (szOf P e) then cond (decide (0 ≤ i ∧ i < (n : Int))) (K (.tv (.lf (.pix id off i.toNat 0)))) none else none
    | some (.slice e), some (.tv (.lf x)), some i => match sliceForm h x with
      | some (id, off, lo, len, _) => if ewAt h id off = some (szOf P e) then cond (decide (0 ≤ i ∧ i < (len : Int))) (K (.tv (.lf (.pix id off (lo + i.toNat) 0)))) none else none
      | none => none
    | _, _, _ => none
  | .index t x ix => match opd P env t x, intArg (opd P env 0 ix) with
    | some (.tv (.lf (.str s))), some i => (match P.underlying t with
      | some .string => cond (decide (0 ≤ i ∧ i < (s.size : Int))) (K (.tv (.lf (.int .u8 ((s.data.getD i.toNat 0).toNat : Int))))) none
      | _ => none)
    | some (.tv (.agg [.seq k n l])), some i => (match P.underlying t with
      | some (.array n' e) => if n' = n ∧ 0 < n ∧ szOf P e = k.w then (match ldE P e (k.toLV (l.getD i.toNat k.zero)) with
        | some v => cond (decide (0 ≤ i ∧ i < (n : Int))) (K (.tv v)) none
        | none => none) else none
      | _ => none)
    | _, _ => none
  | .extract x i => match opd P env 0 x with
    | some (.tup l) => match l[i]? with
      | some v => K (.tv v)
      | none => none
    | _ => none
  | .build t parts => match P.underlying t with
    | some (.struct fs) => if !(fs.toList.all fun fd => (P.info? fd.type).isSome) then none else match zeroE P t, partsOf P env (fun i => match fs[i]? with | some fd => fd.type | none => 0) parts.toList with
      | some es, some ps => match putParts (fun i => match fs[i]? with | some fd => some (fd.offset, szOf P fd.type) | none => none) es ps with
        | some es' => K (.tv (.agg es'))
        | none => none
      | _, _ => none
    | some (.array n e) => match zeroE P t, partsOf P env (fun _ => e) parts.toList with
      | some [.seq k n' l], some ps => if szOf P e ≠ k.w then none else match putElems k l ps with
        | some l' => K (.tv (.agg [.seq k n' l']))
        | none => none
      | _, _ => none
    | _ => none
  | .call c => match c.callee with
    | .builtin .len => match argVals P env c.args.toList c.argTypes.toList, arg0T P c with
      | some [.lf (.str s)], some .string => K (.tv (.lf (.int .i64 (s.size : Int))))
      | some [.lf (.nils _)], some (.slice _) => K (.tv (.lf (.int .i64 0)))
      | some [.lf (.sl _ x)], some (.slice _) => K (.tv (.lf (.int .i64 (x.dat.length : Int))))
      | some [.lf x], some (.slice _) => match sliceForm h x with
        | some (_, _, _, len, _) => K (.tv (.lf (.int .i64 (len : Int))))
        | none => none
      | _, _ => none
    | .builtin .min => match argVals P env c.args.toList c.argTypes.toList with
      | some [.lf (.int k x), .lf (.int _ y)] => K (.tv (.lf (.int k (if y < x then y else x))))
      | _ => none
    | .builtin .max => match argVals P env c.args.toList c.argTypes.toList with
      | some [.lf (.int k x), .lf (.int _ y)] => K (.tv (.lf (.int k (if y > x then y else x))))
      | _ => none
    | _ => none
  | .makeFunc (.func f) first captured => match first.toList, argVals P env captured.toList [] with
    | [], some vs => (match boxIds vs with
      | some ids => K (.tv (.lf (.clo f ids)))
      | none => none)
    | _, _ => none
  | _ => none
def shp : LV → Option (EK × Nat)
  | .seq k n _ => some (k, n)
  | _ => none
def shps : List LV → List (Option (EK × Nat))
  | [] => []
  | x :: r => shp x :: shps r
def allPos : List LV → Bool
  | [] => true
  | x :: r => if 0 < x.w then allPos r else false
def sameOpd : Operand → Operand → Bool
  | .tmp i, .tmp j => i == j
  | .const (.int _ a), .const (.int _ b) => a == b
  | _, _ => false
def evEff (o : Oper) (env : Env) (h : Heap) (K : AV → Heap → Option Res) : Option Res :=
  match o.op with
  | .alloc t => match zeroE P t with
    | some es => K (.tv (.lf (.ptr h.length 0))) (h ++ [some ⟨false, es⟩])
    | none => none
  | .box t x => match opd P env t x with
    | some (.tv v) => K (.tv (.lf (.ptr h.length 0))) (h ++ [some ⟨false, v.ents⟩])
    | _ => none
  | .binOp .quo xt x y yt => match opd P env xt x, opd P env yt y with
    | some (.tv (.lf (.flt k a))), some (.tv (.lf (.flt k' b))) => if k = k' then fquo k a b (fun r => K (.tv (.lf (.flt k r))) h) (K (.tv (.lf (.nan k))) h) else none
    | _, _ => none
  | .store t a x => match opd P env t a, opd P env t x with
    | some (.tv (.lf (.ptr id off))), some (.tv v) => match hget h id with
      | some ⟨false, es⟩ => if wOf v.ents = some (szOf P t) ∧ 0 < szOf P t then (match putW es off v.ents with
        | some es' => if shps es' = shps es ∧ allPos es then K .top (hset h id (some ⟨false, es'⟩)) else none
        | none => none) else none
      | _ => none
    | some (.tv (.lf (.pix id off i o2))), some (.tv v) => match hget h id with
      | some ⟨false, es⟩ => if wOf v.ents = some (szOf P t) ∧ 0 < szOf P t then (match takeW es off, dropW es off with
        | some pre, some (.seq k n l :: post) => match putW (k.toLV (l.getD i k.zero)) o2 v.ents with
          | some es' => match k.of1 es' with
            | some y => cond (decide (i < l.length)) (K .top (hset h id (some ⟨false, pre ++ .seq k n (l.set i y) :: post⟩))) none
            | none => none
          | none => none
        | _, _ => none) else none
      | _ => none
    | _, _ => none
  | .convert src dst x => match P.underlying src, P.underlying dst, opd P env src x with
    | some .string, some (.slice e), some (.tv (.lf (.str s))) => match P.underlying e, elemOf P e with
      | some (.int .u8), some ⟨.int .u8, _⟩ => K (.tv (.lf (.full h.length))) (h ++ [some ⟨false, [.seq (.int .u8) 0 (toInts s)]⟩])
      | _, _ => none
    | some (.slice _), some (.slice e), some (.tv (.lf (.full id))) => match P.underlying e, hget h id with
      | some (.int .u8), some ⟨false, [.seq _ _ l]⟩ => if src = dst then cond (decide (0 < l.length)) (K (.tv (.lf (.full id))) h) none else none
      | _, _ => none
    | _, _, _ => none
  | .makeSlice t l c => match P.underlying t, intArg (opd P env 0 l), intArg (opd P env 0 c) with
    | some (.slice e), some n, some m => match elemOf P e with
      | some ⟨k, z⟩ => cond (decide (0 ≤ n ∧ n ≤ m ∧ m ≤ 70368744177664 ∧ m * bytesOf P e ≤ 70368744177664))
          (K (.tv (.lf (if sameOpd l c then .full h.length else .slice h.length 0 0 n.toNat (some m.toNat)))) (h ++ [some ⟨false, [.seq k 0 (List.replicate m.toNat z)]⟩])) none
      | none => none
    | _, _, _ => none
  | .buildSlice t n parts => match P.underlying t with
    | some (.slice e) => match elemOf P e, partsOf P env (fun _ => e) parts.toList with
      | some ⟨k, z⟩, some ps => if n * k.w > 2 ^ 24 then none else match putElems k (List.replicate n z) ps with
        | some l => K (.tv (.lf (.full h.length))) (h ++ [some ⟨false, [.seq k 0 l]⟩])
        | none => none
      | _, _ => none
    | _ => none
  | .call c => match c.callee with
    | .builtin .append => match argVals P env c.args.toList c.argTypes.toList, arg0T P c with
      | some [.lf a, .lf b], some (.slice e) => match elemOf P e with
        | some ⟨k, _⟩ => if !arg1Ok P c then none else match visK k h b with
          | some l2 => (match a with
            | .nils _ => cond (decide (l2.length * bytesOf P e ≤ 70368744177664)) (K (.tv (.lf (.full h.length))) (h ++ [some ⟨false, [.seq k 0 l2]⟩])) none
            | .full id => match hget h id with
              | some ⟨false, [.seq k' _ l]⟩ => if hk : k' = k then
                  cond (decide ((l.length + l2.length) * bytesOf P e ≤ 70368744177664)) (K (.tv (.lf (.full h.length))) (hset h id none ++ [some ⟨false, [.seq k 0 (castL hk l ++ l2)]⟩])) none
                else none
              | _ => none
            | .slice id 0 lo len _ => match hget h id with
              | some ⟨false, [.seq k' _ l]⟩ => if hk : k' = k then
                  cond (decide ((len + l2.length) * bytesOf P e ≤ 70368744177664)) (K (.tv (.lf (.full h.length))) (hset h id none ++ [some ⟨false, [.seq k 0 (((castL hk l).drop lo).take len ++ l2)]⟩])) none
                else none
              | _ => none
            | _ => none)
          | none => none
        | none => none
      | _, _ => none
    | .builtin .copy => match argVals P env c.args.toList c.argTypes.toList, arg0T P c with
      | some [.lf d, .lf b], some (.slice e) => match sliceForm h d with
        | some (id, off, lo, len, _) => (match hget h id with
          | some ⟨false, es⟩ => match takeW es off, dropW es off with
            | some pre, some (.seq k n l :: post) => if szOf P e = k.w then match visK k h b with
              | some l2 => K (.tv (.lf (.int .i64 ((min l2.length len : Nat) : Int)))) (hset h id (some ⟨false, pre ++ .seq k n (l.take lo ++ (l2.take len ++ l.drop (lo + min l2.length len))) :: post⟩))
              | none => none
              else none
            | _, _ => none
          | _ => none)
        | none => none
      | _, _ => none
    | _ => none
  | _ => none
def isFltT (t : TypeId) : Bool := match P.underlying t with | some (.float _) => true | _ => false
def isPureOp (op : Op) : Bool :=
  match op with
  | .binOp .quo t _ _ _ => !(isFltT P t)
  | .move _ | .assign _ | .pick .. | .load .. | .nilCheck _ | .binOp .. | .unOp .. | .slice .. | .fieldAddr .. | .field .. | .indexAddr .. | .index .. | .extract .. | .build .. | .makeFunc .. => true
  | .convert _ dst _ => match P.underlying dst with | some (.slice _) => false | _ => true
  | .call c => match c.callee with
    | .builtin .len | .builtin .min | .builtin .max => true
    | _ => false
  | _ => false
end eval
def matL : List LV → Heap → List LV × Heap
  | [], h => ([], h)
  | .nils (some k) :: r, h => let q := matL r (h ++ [some ⟨false, [.seq k 0 []]⟩]); (.full h.length :: q.1, q.2)
  | x :: r, h => let q := matL r h; (x :: q.1, q.2)
def matV : TV → Heap → TV × Heap
  | .lf (.nils (some k)), h => (.lf (.full h.length), h ++ [some ⟨false, [.seq k 0 []]⟩])
  | .lf x, h => (.lf x, h)
  | .agg l, h => let q := matL l h; (.agg q.1, q.2)
def matVs : List TV → Heap → List TV × Heap
  | [], h => ([], h)
  | v :: r, h => let q := matV v h; let q' := matVs r q.2; (q.1 :: q'.1, q'.2)
def matH : Nat → Nat → Heap → Heap
  | 0, _, h => h
  | n + 1, i, h => match hget h i with
    | some ⟨ro, es⟩ => let q := matL es h; matH n (i + 1) (hset q.2 i (some ⟨ro, q.1⟩))
    | none => matH n (i + 1) h
def idsOf : List LV → List Nat
  | [] => []
  | .ptr id _ :: r => id :: idsOf r
  | .pix id _ _ _ :: r => id :: idsOf r
  | .full id :: r => id :: idsOf r
  | .slice id _ _ _ _ :: r => id :: idsOf r
  | .clo _ ids :: r => ids ++ idsOf r
  | .yld id :: r => id :: idsOf r
  | _ :: r => idsOf r
def idsOfVs : List TV → List Nat
  | [] => []
  | v :: r => idsOf v.ents ++ idsOfVs r
def memN : Nat → List Nat → Bool
  | _, [] => false
  | a, b :: r => if a = b then true else memN a r
def nodupB : List Nat → Bool
  | [] => true
  | a :: r => !memN a r && nodupB r
def reach (h : Heap) : Nat → List Nat → List Nat → List Nat
  | 0, _, acc => acc
  | _ + 1, [], acc => acc
  | f + 1, i :: r, acc => if memN i acc then reach h f r acc else match hget h i with
    | some o => reach h f (idsOf o.es ++ r) (acc ++ [i])
    | none => reach h f r acc
def idx : List Nat → Nat → Nat → Option Nat
  | [], _, _ => none
  | a :: r, i, x => if a = x then some i else idx r (i + 1) x
def renIds (f : Nat → Option Nat) : List Nat → Option (List Nat)
  | [] => some []
  | i :: r => match f i, renIds f r with
    | some j, some l => some (j :: l)
    | _, _ => none
def renL (f : Nat → Option Nat) : LV → LV
  | .ptr id off => match f id with | some j => .ptr j off | none => .top
  | .pix id off i o2 => match f id with | some j => .pix j off i o2 | none => .top
  | .full id => match f id with | some j => .full j | none => .top
  | .slice id off lo len cap => match f id with | some j => .slice j off lo len cap | none => .top
  | .clo g ids => match renIds f ids with | some l => .clo g l | none => .top
  | .yld id => match f id with | some j => .yld j | none => .top
  | x => x
def renLs (f : Nat → Option Nat) : List LV → List LV
  | [] => []
  | x :: r => renL f x :: renLs f r
def renV (f : Nat → Option Nat) : TV → TV
  | .lf x => .lf (renL f x)
  | .agg l => .agg (renLs f l)
def renVs (f : Nat → Option Nat) : List TV → List TV
  | [] => []
  | v :: r => renV f v :: renVs f r
def renO (f : Nat → Option Nat) : Option Ob → Option Ob
  | some ⟨ro, es⟩ => some ⟨ro, renLs f es⟩
  | none => none
def pickH (h : Heap) (f : Nat → Option Nat) : List Nat → Heap
  | [] => []
  | i :: r => renO f (hget h i) :: pickH h f r
def backIds (sel : List Nat) (base : Nat) (j : Nat) : Option Nat :=
  match sel[j]? with
  | some i => some i
  | none => some (base + (j - sel.length))
def backO (f : Nat → Option Nat) (n1 i : Nat) (o0 o : Option Ob) : Option Ob :=
  if i < n1 then (match o0, o with
    | some ⟨ra, _⟩, some ⟨_, eb⟩ => some ⟨ra, renLs f eb⟩
    | _, _ => none) else none
def newO (f : Nat → Option Nat) : Heap → Heap
  | [] => []
  | some ⟨false, es⟩ :: r => some ⟨false, renLs f es⟩ :: newO f r
  | _ :: r => none :: newO f r
def putBack (f : Nat → Option Nat) (n1 : Nat) : List Nat → Heap → Heap → Heap
  | i :: sel, o :: r, h => putBack f n1 sel r (hset h i (backO f n1 i (hget h i) o))
  | i :: sel, [], h => putBack f n1 sel [] (hset h i none)
  | [], new, h => h ++ newO f new
def nones : Nat → Heap
  | 0 => []
  | n + 1 => none :: nones n
def dropN : Nat → Heap → Heap
  | 0, h => h
  | _ + 1, [] => []
  | n + 1, _ :: r => dropN n r
def fuelR : Nat := 64
def lendVs : List TV → Heap → List TV × Heap × List Nat
  | [], h => ([], h, [])
  | .lf (.slice id off lo len cap) :: r, h => match vis h (.slice id off lo len cap) with
    | some ⟨k, l⟩ => let q := lendVs r (h ++ [some ⟨true, [.seq k 0 l]⟩]); (.lf (.full h.length) :: q.1, q.2.1, id :: q.2.2)
    | none => let q := lendVs r h; (.lf .top :: q.1, q.2.1, q.2.2)
  | .lf (.sl k x) :: r, h => let q := lendVs r (h ++ [some ⟨true, [.seq k.ek 0 (k.toL x.dat)]⟩]); (.lf (.full h.length) :: q.1, q.2.1, q.2.2)
  | v :: r, h => let q := lendVs r h; (v :: q.1, q.2.1, q.2.2)
def anyMem : List Nat → List Nat → Bool
  | [], _ => false
  | a :: r, l => if memN a l then true else anyMem r l
def allLtB (n : Nat) : List Nat → Bool
  | [] => true
  | a :: r => if a < n then allLtB n r else false
def roAll : Heap → Heap
  | [] => []
  | some ⟨_, es⟩ :: r => some ⟨true, es⟩ :: roAll r
  | none :: r => none :: roAll r
def callS (dr : Bool) (S : Summ) (args : List TV) (h : Heap) (K : List TV → Heap → Option Res) : Option Res :=
  let q := matVs args h
  let h1 := matH q.2.length 0 q.2
  let p := lendVs q.1 h1
  let sel := reach p.2.1 fuelR (idsOfVs p.1) []
  let f := idx sel 0
  let b := backIds sel p.2.1.length
  if !(nodupB sel && allLtB p.2.1.length sel) then none else
  if dr then S (renVs f p.1) (roAll (pickH p.2.1 f sel)) fun rs h2 => K (renVs b rs) (h1 ++ nones (p.2.1.length - h1.length) ++ newO b (dropN sel.length h2))
  else if anyMem p.2.2 sel then none else
  S (renVs f p.1) (pickH p.2.1 f sel) fun rs h2 => K (renVs b rs) (putBack b h1.length sel h2 (h1 ++ nones (p.2.1.length - h1.length)))
section frc
variable {α : Type}
def frcN : Nat → (Nat → α) → α
  | 0, K => K 0
  | n + 1, K => frcN n fun m => K (m + 1)
def frcNs : List Nat → (List Nat → α) → α
  | [], K => K []
  | x :: r, K => frcN x fun x => frcNs r fun r => K (x :: r)
def frcL (x : LV) (K : LV → α) : α := match x with
  | .top => K .top
  | .int k n => K (.int k n)
  | .bool b => K (.bool b)
  | .str s => K (.str s)
  | .nilp => K .nilp
  | .nils k => K (.nils k)
  | .ptr id off => frcN id fun id => frcN off fun off => K (.ptr id off)
  | .pix id off i o2 => frcN id fun id => frcN off fun off => frcN o2 fun o2 => K (.pix id off i o2)
  | .full id => frcN id fun id => K (.full id)
  | .slice id off lo len cap => frcN id fun id => frcN off fun off => (match cap with
    | none => K (.slice id off lo len none)
    | some c => K (.slice id off lo len (some c)))
  | .seq k n l => K (.seq k n l)
  | .fn f => frcN f fun f => K (.fn f)
  | .sl q x => K (.sl q x)
  | .clo f ids => frcN f fun f => frcNs ids fun ids => K (.clo f ids)
  | .yld id => frcN id fun id => K (.yld id)
  | .nilf => K .nilf
  | .flt k b => K (.flt k b)
  | .nan k => K (.nan k)
def frcLs : List LV → (List LV → α) → α
  | [], K => K []
  | x :: r, K => frcL x fun x => frcLs r fun r => K (x :: r)
def frcV (x : TV) (K : TV → α) : α := match x with
  | .lf x => frcL x fun x => K (.lf x)
  | .agg l => frcLs l fun l => K (.agg l)
def frcVs : List TV → (List TV → α) → α
  | [], K => K []
  | x :: r, K => frcV x fun x => frcVs r fun r => K (x :: r)
def frcA (x : AV) (K : AV → α) : α := match x with
  | .tv v => frcV v fun v => K (.tv v)
  | .tup l => frcVs l fun l => K (.tup l)
def frcAs : List AV → (List AV → α) → α
  | [], K => K []
  | x :: r, K => frcA x fun x => frcAs r fun r => K (x :: r)
def frcO (x : Option Ob) (K : Option Ob → α) : α := match x with
  | none => K none
  | some ⟨ro, es⟩ => frcLs es fun es => K (some ⟨ro, es⟩)
def frcH : Heap → (Heap → α) → α
  | [], K => K []
  | x :: r, K => frcO x fun x => frcH r fun r => K (x :: r)
def esetF : Env → Nat → AV → (Env → α) → α
  | [], _, _, K => K []
  | _ :: r, 0, v, K => K (v :: r)
  | x :: r, n + 1, v, K => esetF r n v fun r => K (x :: r)
theorem frcN_eq : ∀ (n : Nat) (K : Nat → α), frcN n K = K n
  | 0, K => rfl
  | n + 1, K => by simp only [frcN]; rw [frcN_eq n]
theorem frcNs_eq : ∀ (x : List Nat) (K : List Nat → α), frcNs x K = K x
  | [], K => rfl
  | x :: r, K => by simp only [frcNs, frcN_eq]; rw [frcNs_eq r]
theorem frcL_eq (x : LV) (K : LV → α) : frcL x K = K x := by
  cases x <;> simp only [frcL, frcN_eq, frcNs_eq]
  rename_i cap
  cases cap <;> rfl
theorem frcLs_eq : ∀ (x : List LV) (K : List LV → α), frcLs x K = K x
  | [], K => rfl
  | x :: r, K => by simp only [frcLs, frcL_eq]; rw [frcLs_eq r]
theorem frcV_eq (x : TV) (K : TV → α) : frcV x K = K x := by
  cases x <;> simp only [frcV, frcL_eq, frcLs_eq]
theorem frcVs_eq : ∀ (x : List TV) (K : List TV → α), frcVs x K = K x
  | [], K => rfl
  | x :: r, K => by simp only [frcVs, frcV_eq]; rw [frcVs_eq r]
theorem frcA_eq (x : AV) (K : AV → α) : frcA x K = K x := by
  cases x <;> simp only [frcA, frcV_eq, frcVs_eq]
theorem frcAs_eq : ∀ (x : List AV) (K : List AV → α), frcAs x K = K x
  | [], K => rfl
  | x :: r, K => by simp only [frcAs, frcA_eq]; rw [frcAs_eq r]
theorem frcO_eq (x : Option Ob) (K : Option Ob → α) : frcO x K = K x := by
  cases x <;> simp only [frcO, frcLs_eq]
theorem frcH_eq : ∀ (x : Heap) (K : Heap → α), frcH x K = K x
  | [], K => rfl
  | x :: r, K => by simp only [frcH, frcO_eq]; rw [frcH_eq r]
theorem esetF_eq : ∀ (e : Env) (i : Nat) (v : AV) (K : Env → α), esetF e i v K = K (eset e i v)
  | [], i, v, K => by cases i <;> rfl
  | x :: r, 0, v, K => rfl
  | x :: r, n + 1, v, K => by simp only [esetF, eset]; rw [esetF_eq r]
end frc
def callF (dr : Bool) (S : Summ) (args : List TV) (h : Heap) (K : List TV → Heap → Option Res) : Option Res :=
  frcVs (matVs args h).1 fun vs1 => frcH (matVs args h).2 fun hq => frcH (matH hq.length 0 hq) fun h1 =>
  frcVs (lendVs vs1 h1).1 fun vs2 => frcH (lendVs vs1 h1).2.1 fun h2 => frcNs (lendVs vs1 h1).2.2 fun ids =>
  frcNs (reach h2 fuelR (idsOfVs vs2) []) fun sel => frcN h1.length fun n1 => frcN h2.length fun n2 =>
  if !(nodupB sel && allLtB n2 sel) then none else
  if dr then frcVs (renVs (idx sel 0) vs2) fun a => frcH (roAll (pickH h2 (idx sel 0) sel)) fun ha => S a ha fun rs h3 =>
    frcVs (renVs (backIds sel n2) rs) fun rs' => frcH (h1 ++ nones (n2 - n1) ++ newO (backIds sel n2) (dropN sel.length h3)) fun h4 => K rs' h4
  else if anyMem ids sel then none else
  frcVs (renVs (idx sel 0) vs2) fun a => frcH (pickH h2 (idx sel 0) sel) fun ha => S a ha fun rs h3 =>
    frcVs (renVs (backIds sel n2) rs) fun rs' => frcH (putBack (backIds sel n2) n1 sel h3 (h1 ++ nones (n2 - n1))) fun h4 => K rs' h4
theorem callF_eq (dr : Bool) (S : Summ) (args : List TV) (h : Heap) (K : List TV → Heap → Option Res) : callF dr S args h K = callS dr S args h K := by
  simp only [callF, callS, frcVs_eq, frcH_eq, frcNs_eq, frcN_eq]
section eval2
variable (P : Program) (T : FuncId → Option Summ)
structure YS where
  id : Nat
  run : List TV → Heap → (Bool → Heap → Option Res) → Option Res
inductive Xt where
  | normal | exit (id : Nat) | goto (l : Nat) | ret
  deriving DecidableEq
structure LoopS where
  live : List Nat
  out : Xt → List Nat
  run : List TV → Heap → (Xt → List AV → Heap → Option Res) → Option Res
  mv : List Nat
structure Xtra where
  wr : List Nat
  rd : Bool
  y : Option YS
  jn : Nat → Option LoopS
def noJn : Nat → Option LoopS := fun _ => none
variable (X : Xtra)
def retAV : List TV → AV
  | [v] => .tv v
  | l => .tup l
def fnOf (env : Env) : Operand → Option (FuncId × List Nat)
  | .func f => some (f, [])
  | .tmp i => match eget env i with
    | .tv (.lf (.fn f)) => some (f, [])
    | .tv (.lf (.clo f ids)) => some (f, ids)
    | _ => none
  | _ => none
def yldOf (env : Env) : Operand → Option Nat
  | .tmp i => match eget env i with
    | .tv (.lf (.yld id)) => some id
    | _ => none
  | _ => none
def ptrs : List Nat → List TV
  | [] => []
  | i :: r => .lf (.ptr i 0) :: ptrs r
noncomputable def evOp (dr : Bool) (o : Oper) (env : Env) (h : Heap) (K : AV → Heap → Option Res) : Option Res :=
  if isPureOp P o.op then evPure P o env h fun v => K v h
  else match o.op with
    | .call c => (match c.callee with
      | .value x => match yldOf env x with
        | some id => (match X.y, argVals P env c.args.toList c.argTypes.toList with
          | some y, some args => if id = y.id then y.run args h fun b h' => K (.tv (.lf (.bool b))) h' else none
          | _, _ => none)
        | none => match fnOf env x with
          | some (f, ids) => (match T f, argVals P env c.args.toList c.argTypes.toList with
            | some S, some args => callF dr S (args ++ ptrs ids) h fun rs h' => K (retAV rs) h'
            | _, _ => none)
          | none => evEff P o env h K
      | _ => evEff P o env h K)
    | _ => evEff P o env h K
def dstSet (env : Env) (d : Option Tmp) (v : AV) : Env := match d with | some i => eset env i v | none => env
def dstF (env : Env) (d : Option Tmp) (v : AV) (h : Heap) (K : Env → Heap → Option Res) : Option Res :=
  match d with
  | some i => frcA v fun v => frcH h fun h => esetF env i v fun env => K env h
  | none => frcH h fun h => K env h
theorem dstF_eq (env : Env) (d : Option Tmp) (v : AV) (h : Heap) (K : Env → Heap → Option Res) : dstF env d v h K = K (dstSet env d v) h := by
  cases d <;> simp only [dstF, dstSet, frcA_eq, frcH_eq, esetF_eq]
noncomputable def evStep (dr : Bool) (all : List Oper) (o : Oper) (env : Env) (h : Heap) (K : Env → Heap → Option Res) : Option Res :=
  match o.guard with
  | none => evOp P T X dr o env h fun v h' => dstF env o.dst v h' K
  | some (j, want) => match all[j]? with
    | some oj => match oj.dst with
      | some s => match eget env s with
        | .tv (.lf (.bool b)) =>
          cond b
            (esetF env s (.tv (.lf (.bool true))) fun env => if want then evOp P T X dr o env h fun v h' => dstF env o.dst v h' K else dstF env o.dst (.tup []) h K)
            (esetF env s (.tv (.lf (.bool false))) fun env => if want then dstF env o.dst (.tup []) h K else evOp P T X dr o env h fun v h' => dstF env o.dst v h' K)
        | .tup [] => dstF env o.dst (.tup []) h K
        | _ => none
      | none => none
    | none => none
noncomputable def evOps (all : List Oper) : List Oper → Env → Heap → (Env → Heap → Option Res) → Option Res
  | [], env, h, K => K env h
  | o :: r, env, h, K => evStep P T X false all o env h fun env' h' => evOps all r env' h' K
def isDs (op : Op) : Bool := match op with
  | .store .. => true
  | .convert src dst _ => src == dst
  | .call c => (match c.callee with | .builtin _ => true | _ => false)
  | _ => false
def waitsB (ops : Array Oper) (i : Nat) : Nat → Nat → Bool
  | 0, _ => false
  | fuel + 1, d => match ops[d]? with
    | some o => o.after.any fun e => Region.binds .any e && (e.on == i || waitsB ops i fuel e.on)
    | none => false
def isCallV : Op → Bool
  | .call c => (match c.callee with | .value _ => true | _ => false)
  | _ => false
def isLast (wr : Bool) (o : Oper) : Bool := !isPureOp P o.op && (isDs o.op || (wr && isCallV o.op))
def lastB (wr : Bool) (ops : Array Oper) (listed : Array Bool) (i : Nat) : Bool :=
  (List.range ops.size).all fun d => d == i || listed.getD d true || !(match ops[d]? with | some o => isLast P wr o | none => false) || waitsB ops i ops.size d
def isFree (op : Op) : Bool := match op with
  | .load .. => false
  | .convert _ dst _ => (match P.underlying dst with | some (.int _) => true | _ => false)
  | op => isPureOp P op
def takeable (wr : Bool) (ops : Array Oper) (listed : Array Bool) (i : Nat) : Bool :=
  (match ops[i]? with | some o => isPureOp P o.op | none => false) && Region.free .any ops listed i && ((match ops[i]? with | some o => isFree P o.op | none => false) || lastB P wr ops listed i)
inductive PT where
  | done
  | step (i : Nat) (t : PT)
  | alt (a b : PT)
def altAll : List (Option PT) → Option PT
  | [] => none
  | [x] => x
  | x :: r => match x, altAll r with
    | some a, some b => some (.alt a b)
    | _, _ => none
def planGo (wr : Bool) (ops : Array Oper) : Nat → Array Bool → Option PT
  | 0, listed => if (Region.ready .any ops listed).isEmpty then some .done else none
  | f + 1, listed => match (Region.ready .any ops listed).find? (takeable P wr ops listed) with
    | some i => match planGo wr ops f (listed.setIfInBounds i true) with
      | some t => some (.step i t)
      | none => none
    | none => altAll ((Region.ready .any ops listed).map fun i => match planGo wr ops f (listed.setIfInBounds i true) with
      | some t => some (.step i t)
      | none => none)
def plan (wr : Bool) (ops : Array Oper) : Option PT := if Region.noSelect ops then planGo P wr ops ops.size (Array.replicate ops.size false) else none
noncomputable def evPT (dr : Bool) (all : List Oper) : PT → Env → Heap → (Env → Heap → Option Res) → Option Res
  | .done, env, h, K => K env h
  | .step i t, env, h, K => match all[i]? with
    | some o => evStep P T X dr all o env h fun env' h' => evPT dr all t env' h' K
    | none => none
  | .alt a b, env, h, K => amb (evPT dr all a env h K) (evPT dr all b env h K)
def firstRegion : Code → Nat
  | .region id _ _ => id
  | .seq a _ => firstRegion a
  | .block _ a => firstRegion a
  | .loop a => firstRegion a
  | .scope a => firstRegion a
  | _ => 0
def topEnv : Nat → Env
  | 0 => []
  | n + 1 => .top :: topEnv n
def mkEnv (n : Nat) : List Nat → List AV → Env
  | s :: ss, v :: vs => eset (mkEnv n ss vs) s v
  | _, _ => topEnv n
def getAll (env : Env) : List Nat → List AV
  | [] => []
  | s :: r => eget env s :: getAll env r
def tvsOf : List AV → Option (List TV)
  | [] => some []
  | .tv (.lf .top) :: _ => none
  | .tv v :: r => match tvsOf r with | some l => some (v :: l) | none => none
  | _ => none
def avsOf : List TV → List AV
  | [] => []
  | v :: r => .tv v :: avsOf r
def seqN : Nat → Nat → List Nat
  | 0, _ => []
  | n + 1, i => i :: seqN n (i + 1)
def cntN (a : Nat) : List Nat → Nat
  | [] => 0
  | b :: r => if a = b then cntN a r + 1 else cntN a r
def allIds (h : Heap) : List Nat → List Nat
  | [] => []
  | i :: r => match hget h i with
    | some o => idsOf o.es ++ allIds h r
    | none => allIds h r
def tidyL (all : List Nat) (i : Nat) : List LV → Heap → List LV × Heap
  | [], h => ([], h)
  | .slice id off lo len cap :: r, h => match hget h id with
    | some ⟨false, [.seq k n l]⟩ => if id ≠ i ∧ off = 0 ∧ n = 0 ∧ cntN id all = 1 then
        let q := tidyL all i r (hset h id none ++ [some ⟨false, [.seq k 0 ((l.drop lo).take len)]⟩]); (.full h.length :: q.1, q.2)
      else let q := tidyL all i r h; (.slice id off lo len cap :: q.1, q.2)
    | _ => let q := tidyL all i r h; (.slice id off lo len cap :: q.1, q.2)
  | x :: r, h => let q := tidyL all i r h; (x :: q.1, q.2)
def tidyH (all : List Nat) : Nat → Nat → Heap → Heap
  | 0, _, h => h
  | n + 1, i, h => match hget h i with
    | some ⟨ro, es⟩ => let q := tidyL all i es h; tidyH all n (i + 1) (hset q.2 i (some ⟨ro, q.1⟩))
    | none => tidyH all n (i + 1) h
def restOf (n0 : Nat) (mv : List Nat) : List Nat → List Nat
  | [] => []
  | i :: r => if i < n0 then (if memN i mv then i :: restOf n0 mv r else restOf n0 mv r) else i :: restOf n0 mv r
def mvF (n0 : Nat) (mv rest : List Nat) (i : Nat) : Option Nat := if i < n0 then (if memN i mv then idx rest n0 i else some i) else idx rest n0 i
def pickP (h : Heap) (f : Nat → Option Nat) (mv : List Nat) : Nat → Nat → Heap
  | 0, _ => []
  | n + 1, i => (if memN i mv then none else renO f (hget h i)) :: pickP h f mv n (i + 1)
def dropAll (mv : List Nat) : List Nat → List Nat
  | [] => []
  | i :: r => if memN i mv then dropAll mv r else i :: dropAll mv r
def matK (kn : Bool) (vs : List TV) (h : Heap) : List TV × Heap := match kn with
  | true => (vs, h)
  | false => matVs vs h
def normVs (kn : Bool) (n0 : Nat) (mv : List Nat) (vs : List TV) (h : Heap) (K : List TV → Heap → Option Res) : Option Res :=
  let q := matK kn vs h
  let h1 := matH q.2.length 0 q.2
  let h2 := tidyH (idsOfVs q.1 ++ allIds h1 (reach h1 fuelR (seqN n0 0 ++ idsOfVs q.1) [])) h1.length 0 h1
  let rest := restOf n0 mv (reach h2 fuelR (dropAll mv (seqN n0 0) ++ idsOfVs q.1) [])
  if !nodupB rest then none else K (renVs (mvF n0 mv rest) q.1) (pickP h2 (mvF n0 mv rest) mv n0 0 ++ pickH h2 (mvF n0 mv rest) rest)
def normF (kn : Bool) (n0 : Nat) (mv : List Nat) (vs : List TV) (h : Heap) (K : List TV → Heap → Option Res) : Option Res :=
  frcVs (matK kn vs h).1 fun vs1 => frcH (matK kn vs h).2 fun hq => frcH (matH hq.length 0 hq) fun h1 =>
  frcH (tidyH (idsOfVs vs1 ++ allIds h1 (reach h1 fuelR (seqN n0 0 ++ idsOfVs vs1) [])) h1.length 0 h1) fun h2 =>
  frcNs (restOf n0 mv (reach h2 fuelR (dropAll mv (seqN n0 0) ++ idsOfVs vs1) [])) fun rest =>
  if !nodupB rest then none else frcVs (renVs (mvF n0 mv rest) vs1) fun a => frcH (pickP h2 (mvF n0 mv rest) mv n0 0 ++ pickH h2 (mvF n0 mv rest) rest) fun ha => K a ha
theorem normF_eq (kn : Bool) (n0 : Nat) (mv : List Nat) (vs : List TV) (h : Heap) (K : List TV → Heap → Option Res) : normF kn n0 mv vs h K = normVs kn n0 mv vs h K := by
  simp only [normF, normVs, frcVs_eq, frcH_eq, frcNs_eq]
variable (nt n0 : Nat) (LT : Nat → Option LoopS)
def loopIn (S : LoopS) (env : Env) (h : Heap) (K : Xt → List AV → Heap → Option Res) : Option Res :=
  match Nat.ble nt env.length with
  | true => (match tvsOf (getAll env S.live) with
    | some vs => normF false n0 S.mv vs h fun vs' h' => S.run vs' h' K
    | none => none)
  | false => none
def loopOut (S : LoopS) (e : Xt) (env : Env) (h : Heap) (K : Xt → List AV → Heap → Option Res) : Option Res :=
  match Nat.ble nt env.length with
  | true => K e (getAll env (S.out e)) h
  | false => none
def labelIn : Code → Option Nat
  | .seq a b => match labelIn a with
    | some l => some l
    | none => labelIn b
  | .label l => some l
  | _ => none
def lkey (l : Nat) : Nat := l + 1000000
def rkey (l : Nat) : Nat := l + 2000000
noncomputable def evC : Code → Env → Heap → (Xt → Env → Heap → Option Res) → Option Res
  | .skip, env, h, K => K .normal env h
  | .region id ops dr, env, h, K => match dr with
    | false => evOps P T X ops.toList ops.toList env h fun env' h' => K .normal env' h'
    | true => if X.rd then none else match plan P (X.wr.contains id) ops with
      | some l => evPT P T ⟨X.wr, X.rd, none, noJn⟩ (!X.wr.contains id) ops.toList l env h fun env' h' => frcAs env' fun env' => frcH h' fun h' => K .normal env' h'
      | none => none
  | .seq a b, env, h, K => evC a env h fun e env' h' => match e with
    | .normal => (match X.jn (firstRegion b) with
      | some S => loopIn nt n0 S env' h' fun e vs' h' => frcAs (mkEnv nt (S.out e) vs') fun env => frcH h' fun h' => K e env h'
      | none => evC b env' h' K)
    | .exit i => K (.exit i) env' h'
    | .goto i => K (.goto i) env' h'
    | .ret => K .ret env' h'
  | .cond c a b, env, h, K => match opd P env 0 c with
    | some (.tv (.lf (.bool t))) => cond t (evC a env h K) (evC b env h K)
    | _ => none
  | .block id b, env, h, K => evC b env h fun e env' h' => match e with
    | .exit j => if j = id then K .normal env' h' else K (.exit j) env' h'
    | .normal => K .normal env' h'
    | .goto i => K (.goto i) env' h'
    | .ret => K .ret env' h'
  | .loop b, env, h, K => match LT (firstRegion b) with
    | some S => loopIn nt n0 S env h fun e vs' h' => frcAs (mkEnv nt (S.out e) vs') fun env => frcH h' fun h' => K e env h'
    | none => none
  | .exit id, env, h, K => K (.exit id) env h
  | .goto l, env, h, K => K (.goto l) env h
  | .ret, env, h, K => K .ret env h
  | .label _, env, h, K => K .normal env h
  | .rangeFunc _ _ x _, env, h, K => if X.rd || X.y.isSome then none else match LT (rkey (firstRegion x)) with
    | some S => loopIn nt n0 S env h fun e vs' h' => frcAs (mkEnv nt (S.out e) vs') fun env => frcH h' fun h' => K e env h'
    | none => none
  | .scope b, env, h, K => if X.rd then none else evC b env h fun e env' h' => match e with
    | .goto l => if labelIn b ≠ some l then none else (match LT (lkey l) with
      | some S => loopIn nt n0 S env' h' fun e vs' h' => frcAs (mkEnv nt (S.out e) vs') fun env => frcH h' fun h' => K e env h'
      | none => none)
    | .exit i => K (.exit i) env' h'
    | .normal => K .normal env' h'
    | .ret => K .ret env' h'
  | _, _, _, _ => none
noncomputable def roundOf (S : LoopS) (b : Code) (vs : List TV) (h : Heap) (K : Xt → List AV → Heap → Option Res) : Option Res :=
  frcAs (mkEnv nt S.live (avsOf vs)) fun env => evC P T X nt n0 LT b env h fun e env' h' => match e with
    | .normal => loopIn nt n0 S env' h' K
    | .exit i => loopOut nt S (.exit i) env' h' K
    | .goto i => loopOut nt S (.goto i) env' h' K
    | .ret => loopOut nt S .ret env' h' K
noncomputable def joinOf (S : LoopS) (b : Code) (vs : List TV) (h : Heap) (K : Xt → List AV → Heap → Option Res) : Option Res :=
  frcAs (mkEnv nt S.live (avsOf vs)) fun env => evC P T X nt n0 LT b env h fun e env' h' => loopOut nt S e env' h' K
noncomputable def passOf (S : LoopS) (l : Nat) (b : Code) (vs : List TV) (h : Heap) (K : Xt → List AV → Heap → Option Res) : Option Res :=
  frcAs (mkEnv nt S.live (avsOf vs)) fun env => evC P T X nt n0 LT b env h fun e env' h' => match e with
    | .goto i => if i = l then loopIn nt n0 S env' h' K else none
    | .normal => loopOut nt S .normal env' h' K
    | .exit i => loopOut nt S (.exit i) env' h' K
    | .ret => loopOut nt S .ret env' h' K
def argEnv : Nat → List TV → Env
  | 0, _ => []
  | n + 1, [] => .top :: argEnv n []
  | n + 1, v :: r => .tv v :: argEnv n r
def ghosts : Heap := [some ⟨false, []⟩, none, none, some ⟨false, []⟩]
def isNone : Option Ob → Bool
  | none => true
  | _ => false
def resVals (env : Env) (h : Heap) : List ResultVar → Option (List TV)
  | [] => some []
  | .tmp t :: r => match eget env t, resVals env h r with
    | .tv (.lf .top), _ => none
    | .tv v, some l => some (v :: l)
    | _, _ => none
  | .cell a t :: r => match eget env a with
    | .tv (.lf (.ptr id off)) => match hget h id with
      | some ob => match dropW ob.es off with
        | some q => match ldE P t q, resVals env h r with
          | some v, some l => some (v :: l)
          | _, _ => none
        | none => none
      | none => none
    | _ => none
noncomputable def evBody (mv : List Nat) (kn : Bool) (c : Code) (rv : List ResultVar) (args : List TV) (h : Heap) (K : List TV → Heap → Option Res) : Option Res :=
  frcAs (argEnv nt args) fun env => evC P T X nt n0 LT c env h fun e env h' =>
    match e with
    | .normal => (match resVals P env h' rv with
      | some vs => normF kn n0 mv vs h' K
      | none => none)
    | .ret => (match resVals P env h' rv with
      | some vs => normF kn n0 mv vs h' K
      | none => none)
    | _ => none
end eval2
end
section
variable [FZ]
structure Gh where
  addr : Option (Nat × Nat)
  sz : Nat
  ln : Nat → Nat
  ew : Nat → Nat
  blk : Option (Nat × Obj)
abbrev GM := List Gh
def EK.cv : (k : EK) → k.den → List Value
  | .int k, n => [.int k n]
  | .bool, b => [.bool b]
  | .str, s => [.string s]
  | .pair a b, p => a.cv p.1 ++ b.cv p.2
  | .sl q, x => [.slice x.a x.dat.length x.cap]
def cvs (k : EK) : List k.den → List Value
  | [] => []
  | x :: r => k.cv x ++ cvs k r
def at_ (b : Nat × Nat) (n : Nat) : Addr := ⟨b.1, b.2 + n, none⟩
def leafV : Value → Prop
  | .agg _ => False
  | .tuple _ => False
  | _ => True
def SlRel (m : GM) (id off lo len : Nat) (cap : Option Nat) (v : Value) : Prop :=
  ∃ g a c, m[id]? = some g ∧ v = .slice a len c ∧ len ≤ c ∧ (∀ c', cap = some c' → c = c') ∧ lo + cap.getD len ≤ g.ln off ∧
    (c = 0 ∨ ∃ b, g.addr = some b ∧ a = some (at_ b (off + lo * g.ew off)) ∧ b.2 + off + (lo + c) * g.ew off ≤ g.sz)
def CapRel (m : GM) : List Nat → List Value → Prop
  | [], [] => True
  | i :: r, v :: s => (∃ g b, m[i]? = some g ∧ g.addr = some b ∧ v = .pointer (some (at_ b 0))) ∧ CapRel m r s
  | _, _ => False
def LRel (m : GM) : LV → Value → Prop
  | .top, v => leafV v
  | .int k n, v => v = .int k n
  | .bool b, v => v = .bool b
  | .str s, v => v = .string s
  | .nilp, v => v = .pointer none
  | .nils _, v => v = .slice none 0 0
  | .ptr id off, v => ∃ g b, m[id]? = some g ∧ g.addr = some b ∧ v = .pointer (some (at_ b off))
  | .pix id off i o2, v => ∃ g b, m[id]? = some g ∧ g.addr = some b ∧ v = .pointer (some (at_ b (off + i * g.ew off + o2)))
  | .full id, v => ∃ g, m[id]? = some g ∧ SlRel m id 0 0 (g.ln 0) none v
  | .slice id off lo len cap, v => SlRel m id off lo len cap v
  | .seq _ _ _, _ => False
  | .fn f, v => v = .func (.func f) #[] #[]
  | .sl q x, v => v = .slice x.a x.dat.length x.cap
  | .clo f ids, v => ∃ bs : Array Value, v = .func (.func f) #[] bs ∧ CapRel m ids bs.toList
  | .yld id, v => ∃ g l o, m[id]? = some g ∧ g.blk = some (l, o) ∧ v = .func (.yield l) #[] #[]
  | .nilf, v => v = .nilFunc
  | .flt k b, v => v = .float k b
  | .nan k, v => ∃ b, v = .float k b ∧ ∀ c, k.format.order b c ≠ some .eq ∧ k.format.order c b ≠ some .eq
def ECells (m : GM) : LV → List Value → Prop
  | .seq k n l, cs => (n = 0 ∨ l.length = n) ∧ cs = cvs k l
  | x, cs => ∃ v, cs = [v] ∧ LRel m x v
def OCells (m : GM) : List LV → List Value → Prop
  | [], cs => cs = []
  | x :: r, cs => ∃ a b, cs = a ++ b ∧ ECells m x a ∧ OCells m r b
theorem LRel.leaf {m : GM} {x : LV} {v : Value} (h : LRel m x v) : leafV v := by
  cases x <;> simp only [LRel, SlRel] at h
  case top => exact h
  case ptr => obtain ⟨_, _, _, _, rfl⟩ := h; trivial
  case pix => obtain ⟨_, _, _, _, rfl⟩ := h; trivial
  case full => obtain ⟨_, _, _, _, _, _, rfl, _⟩ := h; trivial
  case slice => obtain ⟨_, _, _, _, rfl, _⟩ := h; trivial
  case clo => obtain ⟨_, rfl, _⟩ := h; trivial
  case nan => obtain ⟨_, rfl, _⟩ := h; trivial
  case yld => obtain ⟨_, _, _, _, _, rfl⟩ := h; trivial
  all_goals (subst h; trivial)
theorem leafV.cells {v : Value} (h : leafV v) : v.cells = #[v] := by
  cases v <;> first | rfl | exact h.elim
theorem cv_length (k : EK) (x : k.den) : (k.cv x).length = k.w := by
  induction k with
  | pair a b iha ihb => simp [EK.cv, EK.w, iha, ihb]
  | _ => rfl
theorem EK.w_pos (k : EK) : 0 < k.w := by
  induction k with
  | pair a b iha ihb => simp only [EK.w]; omega
  | _ => simp [EK.w]
theorem cvs_length (k : EK) (l : List k.den) : (cvs k l).length = l.length * k.w := by
  induction l with
  | nil => simp [cvs]
  | cons x r ih => simp only [cvs, List.length_append, cv_length, ih, List.length_cons, Nat.add_mul]; omega
theorem cvs_append (k : EK) (l r : List k.den) : cvs k (l ++ r) = cvs k l ++ cvs k r := by
  induction l with
  | nil => rfl
  | cons x l ih => simp [cvs, ih]
theorem cvs_drop (k : EK) (l : List k.den) : ∀ n, cvs k (l.drop n) = (cvs k l).drop (n * k.w) := by
  induction l with
  | nil => intro n; simp [cvs]
  | cons x r ih =>
    intro n
    cases n with
    | zero => simp
    | succ n =>
      simp only [List.drop_succ_cons, ih, cvs]
      have hk := cv_length k x
      rw [List.drop_append, List.drop_eq_nil_of_le (as := k.cv x) (by rw [hk, Nat.add_mul]; omega), List.nil_append, hk]
      congr 1
      rw [Nat.add_mul]; omega
theorem cvs_take (k : EK) (l : List k.den) : ∀ n, cvs k (l.take n) = (cvs k l).take (n * k.w) := by
  induction l with
  | nil => intro n; simp [cvs]
  | cons x r ih =>
    intro n
    cases n with
    | zero => simp [cvs]
    | succ n =>
      simp only [List.take_succ_cons, ih, cvs]
      have hk := cv_length k x
      rw [List.take_append, List.take_of_length_le (l := k.cv x) (by rw [hk, Nat.add_mul]; omega), hk]
      congr 2
      rw [Nat.add_mul]; omega
theorem cvs_getD (k : EK) (l : List k.den) (i : Nat) (hi : i < l.length) (j : Nat) (hj : j < k.w) :
    (cvs k l)[i * k.w + j]? = (k.cv (l.getD i k.zero))[j]? := by
  induction l generalizing i with
  | nil => simp at hi
  | cons x r ih =>
    cases i with
    | zero =>
      simp only [cvs, Nat.zero_mul, Nat.zero_add, List.getD_cons_zero]
      rw [List.getElem?_append_left (by rw [cv_length]; exact hj)]
    | succ i =>
      simp only [cvs, List.getD_cons_succ]
      rw [List.getElem?_append_right (by rw [cv_length, Nat.add_mul]; omega)]
      rw [← ih i (by simpa using hi)]
      congr 1
      rw [cv_length, Nat.add_mul]; omega
theorem ocells_append {m : GM} {l r : List LV} {cs : List Value} :
    OCells m (l ++ r) cs ↔ ∃ a b, cs = a ++ b ∧ OCells m l a ∧ OCells m r b := by
  induction l generalizing cs with
  | nil => exact ⟨fun h => ⟨[], cs, rfl, rfl, h⟩, by rintro ⟨a, b, rfl, h, hr⟩; simp only [OCells] at h; subst h; exact hr⟩
  | cons x l ih =>
    simp only [List.cons_append, OCells, ih]
    constructor
    · rintro ⟨a, b, rfl, hx, c, d, rfl, hl, hr⟩
      exact ⟨a ++ c, d, by simp, ⟨a, c, rfl, hx, hl⟩, hr⟩
    · rintro ⟨_, d, rfl, ⟨a, c, rfl, hx, hl⟩, hr⟩
      exact ⟨a, c ++ d, by simp, hx, c, d, rfl, hl, hr⟩
theorem ecells_w {m : GM} {x : LV} {cs : List Value} (hw : 0 < x.w) (h : ECells m x cs) : cs.length = x.w := by
  cases x
  case seq k n l =>
    obtain ⟨h1, rfl⟩ := h
    rw [cvs_length]
    simp only [LV.w] at hw ⊢
    rcases h1 with h1 | h1
    · subst h1; simp at hw
    · rw [h1]
  all_goals (obtain ⟨v, rfl, _⟩ := h; rfl)
theorem dropW_cells {m : GM} {l r : List LV} {n : Nat} {cs : List Value} (h : dropW l n = some r) (ho : OCells m l cs) :
    n ≤ cs.length ∧ OCells m r (cs.drop n) := by
  induction l generalizing n cs with
  | nil =>
    cases n with
    | zero => simp only [dropW, Option.some.injEq] at h; subst h; simpa using ho
    | succ n => simp [dropW] at h
  | cons x l ih =>
    cases n with
    | zero => simp only [dropW, Option.some.injEq] at h; subst h; simpa using ho
    | succ n =>
      simp only [dropW] at h
      split at h
      · rename_i hw
        obtain ⟨a, b, rfl, hx, hl⟩ := ho
        have hla := ecells_w hw.1 hx
        obtain ⟨h1, h2⟩ := ih h hl
        refine ⟨by simp; omega, ?_⟩
        rw [List.drop_append, List.drop_eq_nil_of_le (by omega), List.nil_append, hla]
        exact h2
      · cases h
theorem takeW_cells {m : GM} {l r : List LV} {n : Nat} {cs : List Value} (h : takeW l n = some r) (ho : OCells m l cs) :
    n ≤ cs.length ∧ OCells m r (cs.take n) := by
  induction l generalizing n cs r with
  | nil =>
    cases n with
    | zero => simp only [takeW, Option.some.injEq] at h; subst h; simp [OCells]
    | succ n => simp [takeW] at h
  | cons x l ih =>
    cases n with
    | zero => simp only [takeW, Option.some.injEq] at h; subst h; simp [OCells]
    | succ n =>
      simp only [takeW] at h
      split at h
      · rename_i hw
        obtain ⟨a, b, rfl, hx, hl⟩ := ho
        have hla := ecells_w hw.1 hx
        cases ht : takeW l (n + 1 - x.w) with
        | none => rw [ht] at h; cases h
        | some q =>
          rw [ht] at h
          simp only [Option.some.injEq] at h
          subst h
          obtain ⟨h1, h2⟩ := ih ht hl
          refine ⟨by simp; omega, a, b.take (n + 1 - x.w), ?_, hx, h2⟩
          rw [List.take_append, List.take_of_length_le (by omega), hla]
      · cases h
theorem wOf_cells {m : GM} {l : List LV} {n : Nat} {cs : List Value} (h : wOf l = some n) (ho : OCells m l cs) : cs.length = n := by
  induction l generalizing n cs with
  | nil => simp only [wOf, Option.some.injEq] at h; subst h; simp only [OCells] at ho; subst ho; rfl
  | cons x l ih =>
    simp only [wOf] at h
    split at h
    · rename_i hw
      cases ht : wOf l with
      | none => rw [ht] at h; cases h
      | some q =>
        rw [ht] at h
        simp only [Option.some.injEq] at h
        obtain ⟨a, b, rfl, hx, hl⟩ := ho
        have := ecells_w hw hx
        have := ih ht hl
        simp; omega
    · cases h
theorem putW_cells {m : GM} {l new l' : List LV} {off : Nat} {cs ns : List Value} (h : putW l off new = some l') (ho : OCells m l cs) (hn : OCells m new ns) :
    off + ns.length ≤ cs.length ∧ OCells m l' (cs.take off ++ (ns ++ cs.drop (off + ns.length))) := by
  simp only [putW] at h
  split at h
  · rename_i n hw
    have hlen := wOf_cells hw hn
    split at h
    · rename_i a b ha hb
      split at h
      · rename_i c hc
        simp only [Option.some.injEq] at h
        subst h
        obtain ⟨h1, h2⟩ := takeW_cells ha ho
        obtain ⟨h3, h4⟩ := dropW_cells hb ho
        obtain ⟨h5, h6⟩ := dropW_cells hc h4
        simp only [List.length_drop] at h5
        refine ⟨by omega, ocells_append.2 ⟨_, _, rfl, h2, ocells_append.2 ⟨_, _, rfl, hn, ?_⟩⟩⟩
        rw [List.drop_drop, ← hlen] at h6
        exact h6
      · cases h
    · cases h
  · cases h
theorem toLV_cells (m : GM) (k : EK) (x : k.den) : OCells m (k.toLV x) (k.cv x) := by
  induction k with
  | pair a b iha ihb => exact ocells_append.2 ⟨_, _, rfl, iha _, ihb _⟩
  | int k => exact ⟨_, _, rfl, ⟨_, rfl, rfl⟩, rfl⟩
  | bool => exact ⟨_, _, rfl, ⟨_, rfl, rfl⟩, rfl⟩
  | str => exact ⟨_, _, rfl, ⟨_, rfl, rfl⟩, rfl⟩
  | sl q => exact ⟨_, _, rfl, ⟨_, rfl, rfl⟩, rfl⟩
theorem ofLV_cells {m : GM} (k : EK) {l r : List LV} {x : k.den} {cs : List Value} (h : k.ofLV l = some (x, r)) (ho : OCells m l cs) :
    ∃ c2, cs = k.cv x ++ c2 ∧ OCells m r c2 := by
  induction k generalizing l r cs with
  | pair a b iha ihb =>
    simp only [EK.ofLV] at h
    split at h
    · rename_i x1 r1 h1
      split at h
      · rename_i y1 r2 h2
        simp only [Option.some.injEq, Prod.mk.injEq] at h
        obtain ⟨rfl, rfl⟩ := h
        obtain ⟨c1, rfl, h3⟩ := iha h1 ho
        obtain ⟨c2, rfl, h4⟩ := ihb h2 h3
        exact ⟨c2, by simp [EK.cv], h4⟩
      · cases h
    · cases h
  | int k =>
    cases l with
    | nil => simp [EK.ofLV] at h
    | cons y r' =>
      cases y <;> simp [EK.ofLV] at h
      rename_i k' n
      obtain ⟨rfl, rfl, rfl⟩ := h
      obtain ⟨a, b, rfl, ⟨v, rfl, hv⟩, hr⟩ := ho
      simp only [LRel] at hv
      subst hv
      exact ⟨b, rfl, hr⟩
  | bool =>
    cases l with
    | nil => simp [EK.ofLV] at h
    | cons y r' =>
      cases y <;> simp [EK.ofLV] at h
      obtain ⟨rfl, rfl⟩ := h
      obtain ⟨a, b, rfl, ⟨v, rfl, hv⟩, hr⟩ := ho
      simp only [LRel] at hv
      subst hv
      exact ⟨b, rfl, hr⟩
  | str =>
    cases l with
    | nil => simp [EK.ofLV] at h
    | cons y r' =>
      cases y <;> simp [EK.ofLV] at h
      obtain ⟨rfl, rfl⟩ := h
      obtain ⟨a, b, rfl, ⟨v, rfl, hv⟩, hr⟩ := ho
      simp only [LRel] at hv
      subst hv
      exact ⟨b, rfl, hr⟩
  | sl q =>
    cases l with
    | nil => simp [EK.ofLV] at h
    | cons y r' =>
      cases y <;> simp [EK.ofLV] at h
      case nils =>
        obtain ⟨rfl, rfl⟩ := h
        obtain ⟨a, b, rfl, ⟨v, rfl, hv⟩, hr⟩ := ho
        simp only [LRel] at hv
        subst hv
        exact ⟨b, rfl, hr⟩
      case sl =>
        rename_i q' z
        obtain ⟨⟨hq, rfl⟩, rfl⟩ := h
        subst hq
        obtain ⟨a, b, rfl, ⟨v, rfl, hv⟩, hr⟩ := ho
        simp only [LRel] at hv
        subst hv
        exact ⟨b, rfl, hr⟩
theorem of1_cells {m : GM} (k : EK) {l : List LV} {x : k.den} {cs : List Value} (h : k.of1 l = some x) (ho : OCells m l cs) : cs = k.cv x := by
  simp only [EK.of1] at h
  split at h
  · rename_i y h1
    simp only [Option.some.injEq] at h
    subst h
    obtain ⟨c2, rfl, h2⟩ := ofLV_cells k h1 ho
    simp only [OCells] at h2
    subst h2
    simp
  · cases h
theorem cv_leaf (k : EK) : ∀ (x : k.den), ∀ c ∈ k.cv x, leafV c := by
  induction k with
  | pair a b iha ihb =>
    intro x c hc
    rcases List.mem_append.1 hc with h | h
    · exact iha _ _ h
    · exact ihb _ _ h
  | int k => intro x c hc; simp only [EK.cv, List.mem_singleton] at hc; subst hc; trivial
  | bool => intro x c hc; simp only [EK.cv, List.mem_singleton] at hc; subst hc; trivial
  | str => intro x c hc; simp only [EK.cv, List.mem_singleton] at hc; subst hc; trivial
  | sl q => intro x c hc; simp only [EK.cv, List.mem_singleton] at hc; subst hc; trivial
theorem cvs_leaf (k : EK) (l : List k.den) : ∀ c ∈ cvs k l, leafV c := by
  induction l with
  | nil => intro c hc; cases hc
  | cons x r ih =>
    intro c hc
    rcases List.mem_append.1 hc with h | h
    · exact cv_leaf k _ _ h
    · exact ih _ h
def TVRel (m : GM) : TV → Value → Prop
  | .lf x, v => LRel m x v
  | .agg es, v => ∃ cs, v = .agg cs ∧ OCells m es cs.toList
def TVs (m : GM) : List TV → List Value → Prop
  | [], [] => True
  | x :: r, v :: s => TVRel m x v ∧ TVs m r s
  | _, _ => False
def AVRel (m : GM) : AV → Value → Prop
  | .tv x, v => TVRel m x v
  | .tup l, v => ∃ vs, v = .tuple vs ∧ TVs m l vs.toList
theorem TVRel.ents {m : GM} {x : TV} {v : Value} (h : TVRel m x v) : OCells m x.ents v.cells.toList := by
  cases x with
  | lf x =>
    have hl := LRel.leaf h
    rw [hl.cells]
    cases x <;> first | exact ⟨[v], [], rfl, ⟨v, rfl, h⟩, rfl⟩ | exact h.elim
  | agg es => obtain ⟨cs, rfl, ho⟩ := h; exact ho
theorem ocells_leaf {m : GM} (es : List LV) : ∀ (cs : List Value), OCells m es cs → ∀ c ∈ cs, leafV c := by
  induction es with
  | nil => intro cs ho c hc; simp only [OCells] at ho; subst ho; cases hc
  | cons y r ih =>
    rintro cs ⟨a, b, rfl, hy, hr⟩ c hc
    rcases List.mem_append.1 hc with hc | hc
    · cases y
      case seq k n l => obtain ⟨_, rfl⟩ := hy; exact cvs_leaf k l c hc
      all_goals (obtain ⟨v, rfl, hv⟩ := hy; simp only [List.mem_singleton] at hc; subst hc; exact hv.leaf)
    · exact ih b hr c hc
theorem TVRel.leaves {m : GM} {x : TV} {v : Value} (h : TVRel m x v) : ∀ c ∈ v.cells.toList, leafV c := ocells_leaf _ _ h.ents
end
section
variable [FZ]
def Pre (m m' : GM) : Prop := ∀ (i : Nat) (g : Gh), m[i]? = some g → m'[i]? = some g
theorem Pre.refl (m : GM) : Pre m m := fun _ _ h => h
theorem Pre.trans {a b c : GM} (h : Pre a b) (k : Pre b c) : Pre a c := fun i g hg => k i g (h i g hg)
theorem pre_append (m t : GM) : Pre m (m ++ t) := fun i g h => by
  have hi : i < m.length := (List.getElem?_eq_some_iff.1 h).1
  rw [List.getElem?_append_left hi]; exact h
theorem SlRel.mono {m m' : GM} (hp : Pre m m') {id off lo len : Nat} {cap : Option Nat} {v : Value} (h : SlRel m id off lo len cap v) : SlRel m' id off lo len cap v := by
  obtain ⟨g, a, c, hg, h⟩ := h
  exact ⟨g, a, c, hp _ _ hg, h⟩
theorem CapRel.mono {m m' : GM} (hp : Pre m m') : ∀ {ids : List Nat} {bs : List Value}, CapRel m ids bs → CapRel m' ids bs
  | [], [], _ => trivial
  | i :: r, v :: s, h => ⟨let ⟨g, b, hg, h1⟩ := h.1; ⟨g, b, hp _ _ hg, h1⟩, CapRel.mono hp h.2⟩
  | [], _ :: _, h => h.elim
  | _ :: _, [], h => h.elim
theorem LRel.mono {m m' : GM} (hp : Pre m m') {x : LV} {v : Value} (h : LRel m x v) : LRel m' x v := by
  cases x <;> simp only [LRel] at h ⊢ <;> try exact h
  · obtain ⟨g, b, hg, h⟩ := h; exact ⟨g, b, hp _ _ hg, h⟩
  · obtain ⟨g, b, hg, h⟩ := h; exact ⟨g, b, hp _ _ hg, h⟩
  · obtain ⟨g, hg, h⟩ := h; exact ⟨g, hp _ _ hg, h.mono hp⟩
  · exact h.mono hp
  · obtain ⟨bs, hv, h⟩ := h; exact ⟨bs, hv, h.mono hp⟩
  · obtain ⟨g, l, o, hg, h⟩ := h; exact ⟨g, l, o, hp _ _ hg, h⟩
theorem ECells.mono {m m' : GM} (hp : Pre m m') {x : LV} {cs : List Value} (h : ECells m x cs) : ECells m' x cs := by
  cases x
  case seq => exact h
  all_goals (obtain ⟨v, hv, hl⟩ := h; exact ⟨v, hv, hl.mono hp⟩)
theorem OCells.mono {m m' : GM} (hp : Pre m m') {es : List LV} : ∀ {cs : List Value}, OCells m es cs → OCells m' es cs := by
  induction es with
  | nil => intro cs h; exact h
  | cons x r ih => rintro cs ⟨a, b, rfl, hx, hr⟩; exact ⟨a, b, rfl, hx.mono hp, ih hr⟩
theorem TVRel.mono {m m' : GM} (hp : Pre m m') {x : TV} {v : Value} (h : TVRel m x v) : TVRel m' x v := by
  cases x with
  | lf x => exact LRel.mono hp h
  | agg es => obtain ⟨cs, rfl, ho⟩ := h; exact ⟨cs, rfl, ho.mono hp⟩
theorem TVs.mono {m m' : GM} (hp : Pre m m') {l : List TV} : ∀ {vs : List Value}, TVs m l vs → TVs m' l vs := by
  induction l with
  | nil => intro vs h; cases vs <;> exact h
  | cons x r ih =>
    intro vs h
    cases vs with
    | nil => exact h.elim
    | cons v s => exact ⟨h.1.mono hp, ih h.2⟩
theorem AVRel.mono {m m' : GM} (hp : Pre m m') {x : AV} {v : Value} (h : AVRel m x v) : AVRel m' x v := by
  cases x with
  | tv x => exact TVRel.mono hp h
  | tup l => obtain ⟨vs, rfl, h⟩ := h; exact ⟨vs, rfl, h.mono hp⟩
theorem constF_cells {m : GM} {g : TypeId → List Value → Option (List LV × List Value)}
    (hg : ∀ t vs es r, g t vs = some (es, r) → ∃ cs, vs = cs ++ r ∧ OCells m es cs) :
    ∀ (ts : List TypeId) (vs : List Value) (es : List LV) (r : List Value), constF g ts vs = some (es, r) → ∃ cs, vs = cs ++ r ∧ OCells m es cs
  | [], vs, es, r, h => by
    simp only [constF, Option.some.injEq, Prod.mk.injEq] at h
    obtain ⟨rfl, rfl⟩ := h
    exact ⟨[], rfl, rfl⟩
  | t :: ts, vs, es, r, h => by
    simp only [constF] at h
    split at h
    · rename_i es1 r1 h1
      split at h
      · rename_i l r2 h2
        simp only [Option.some.injEq, Prod.mk.injEq] at h
        obtain ⟨rfl, rfl⟩ := h
        obtain ⟨c1, rfl, ho1⟩ := hg _ _ _ _ h1
        obtain ⟨c2, rfl, ho2⟩ := constF_cells hg ts _ _ _ h2
        exact ⟨c1 ++ c2, by simp, ocells_append.2 ⟨_, _, rfl, ho1, ho2⟩⟩
      · cases h
    · cases h
theorem constL_cells {m : GM} {g : List Value → Option (List LV × List Value)} {k : EK}
    (hg : ∀ vs es r, g vs = some (es, r) → ∃ cs, vs = cs ++ r ∧ OCells m es cs) :
    ∀ (n : Nat) (vs : List Value) (l : List k.den) (r : List Value), constL g k n vs = some (l, r) → l.length = n ∧ vs = cvs k l ++ r
  | 0, vs, l, r, h => by
    simp only [constL, Option.some.injEq, Prod.mk.injEq] at h
    obtain ⟨rfl, rfl⟩ := h
    exact ⟨rfl, rfl⟩
  | n + 1, vs, l, r, h => by
    simp only [constL] at h
    split at h
    · rename_i es1 r1 h1
      split at h
      · rename_i x hx
        split at h
        · rename_i l2 r2 h2
          simp only [Option.some.injEq, Prod.mk.injEq] at h
          obtain ⟨rfl, rfl⟩ := h
          obtain ⟨c1, rfl, ho1⟩ := hg _ _ _ h1
          have hc := of1_cells k hx ho1
          obtain ⟨hl, rfl⟩ := constL_cells hg n _ _ _ h2
          exact ⟨by simp [hl], by simp [cvs, hc]⟩
        · cases h
      · cases h
    · cases h
theorem constE_cells {m : GM} {P : Program} : ∀ (f : Nat) (t : TypeId) (vs : List Value) (es : List LV) (r : List Value),
    constE P f t vs = some (es, r) → ∃ cs, vs = cs ++ r ∧ OCells m es cs
  | 0, _, _, _, _, h => by simp [constE] at h
  | f + 1, t, vs, es, r, h => by
    unfold constE at h
    split at h
    · exact constF_cells (constE_cells f) _ _ _ _ h
    · split at h
      · rename_i k hk
        split at h
        · rename_i l r1 h1
          simp only [Option.some.injEq, Prod.mk.injEq] at h
          obtain ⟨rfl, rfl⟩ := h
          obtain ⟨hl, rfl⟩ := constL_cells (m := m) (constE_cells f _) _ _ _ _ h1
          exact ⟨_, rfl, _, [], (List.append_nil _).symm, ⟨.inr hl, rfl⟩, rfl⟩
        · cases h
      · cases h
    · split at h
      · simp only [Option.some.injEq, Prod.mk.injEq] at h
        obtain ⟨rfl, rfl⟩ := h
        exact ⟨[_], rfl, _, [], rfl, ⟨_, rfl, rfl⟩, rfl⟩
      · cases h
    · split at h <;> first
        | (cases h; done)
        | (simp only [Option.some.injEq, Prod.mk.injEq] at h
           obtain ⟨rfl, rfl⟩ := h
           exact ⟨[_], rfl, _, [], rfl, ⟨_, rfl, rfl⟩, rfl⟩)
theorem zeroE_cells {m : GM} {P : Program} {t : TypeId} {es : List LV} (h : zeroE P t = some es) :
    ∃ i v, P.info? t = some i ∧ i.zero = some v ∧ OCells m es v.cells.toList := by
  simp only [zeroE] at h
  split at h
  · rename_i i hi
    split at h
    · rename_i v hv
      split at h
      · rename_i l hl
        simp only [Option.some.injEq] at h
        subst h
        obtain ⟨cs, hcs, ho⟩ := constE_cells (m := m) _ _ _ _ _ hl
        rw [List.append_nil] at hcs
        exact ⟨i, v, hi, hv, by rw [hcs]; exact ho⟩
      · cases h
    · cases h
  · cases h
theorem constTV_rel {m : GM} {P : Program} {t : TypeId} {v : Value} {x : TV} (h : constTV P t v = some x) : TVRel m x v := by
  unfold constTV at h
  split at h
  · rename_i cs
    split at h
    · rename_i l hl
      simp only [Option.some.injEq] at h
      subst h
      obtain ⟨c, hcs, ho⟩ := constE_cells (m := m) _ _ _ _ _ hl
      rw [List.append_nil] at hcs
      exact ⟨cs, rfl, by rw [hcs]; exact ho⟩
    · cases h
  all_goals first
    | (cases h; done)
    | (simp only [Option.some.injEq] at h; subst h; rfl)
def Str (w w' : World) : Prop := w'.os = w.os ∧ w'.tape = w.tape ∧ w'.output = w.output
theorem Str.refl (w : World) : Str w w := ⟨rfl, rfl, rfl⟩
theorem Str.trans {a b c : World} (h : Str a b) (k : Str b c) : Str a c := ⟨k.1.trans h.1, k.2.1.trans h.2.1, k.2.2.trans h.2.2⟩
structure Ext (w w' : World) : Prop where
  str : Str w w'
  size : w.heap.size ≤ w'.heap.size
  block : ∀ b, b < w.heap.size → w'.heap[b]? = w.heap[b]?
theorem Ext.refl (w : World) : Ext w w := ⟨Str.refl w, Nat.le_refl _, fun _ _ => rfl⟩
theorem Ext.trans {a b c : World} (h : Ext a b) (k : Ext b c) : Ext a c :=
  ⟨h.str.trans k.str, Nat.le_trans h.size k.size, fun i hi => (k.block i (Nat.lt_of_lt_of_le hi h.size)).trans (h.block i hi)⟩
theorem Ext.drew (w : World) : Ext w { w with drawn := w.drawn + 1 } := ⟨⟨rfl, rfl, rfl⟩, Nat.le_refl _, fun _ _ => rfl⟩
theorem Ext.get {w w' : World} (h : Ext w w') {b : Nat} {o : Obj} (hb : w.heap[b]? = some o) : w'.heap[b]? = some o := by
  rw [h.block b (Array.getElem?_eq_some_iff.1 hb).1]; exact hb
def FrOk (fr : Nat × Nat) (n : Nat) : Prop := fr.1 = fr.2 ∨ n ≤ fr.1
theorem FrOk.not {fr : Nat × Nat} {n : Nat} (h : FrOk fr n) : ∀ j, j < n → ¬ (fr.1 ≤ j ∧ j < fr.2) := by
  unfold FrOk at h; intro j hj; omega
def Placed (g : Gh) (w : World) (ro : Bool) (cs : List Value) : Prop :=
  (cs = [] ∧ g.addr = none) ∨
  ∃ b blk t fr, g.addr = some b ∧ w.heap[b.1]? = some (.cells blk t fr) ∧ blk.size = g.sz ∧ b.2 + cs.length ≤ g.sz ∧
    (∀ j, j < cs.length → blk[b.2 + j]? = cs[j]?) ∧ (ro = false → FrOk fr g.sz)
def SeqG (g : Gh) (es : List LV) : Prop := ∀ off k n l r, dropW es off = some (.seq k n l :: r) → l.length = g.ln off ∧ k.w = g.ew off
def ObRel (m : GM) (g : Gh) (w : World) (ob : Ob) : Prop := SeqG g ob.es ∧ ∃ cs, OCells m ob.es cs ∧ Placed g w ob.ro cs
structure Ctx where
  w0 : World
  O : Nat → Prop
  R : Nat → Prop
  dfs : List Deferred
  hd : ∀ d ∈ dfs, ∃ D, d = { target := .collected D, args := #[] } ∧ w0.heap[D]? = some (.deferred (some [])) ∧ ¬ O D
  nd : dfs.Pairwise (· ≠ ·)
  gh : List (Nat × Nat × Obj)
def Ctx.of (w : World) (O : Nat → Prop) : Ctx := ⟨w, O, fun _ => True, [], fun d h => (by cases h), .nil, []⟩
def Own (G : Ctx) (ro : Bool) (b : Nat) : Prop := if ro then ¬ G.O b ∧ b < G.w0.heap.size ∧ G.R b else G.O b ∨ G.w0.heap.size ≤ b
def FzW (G : Ctx) (a : Option Addr) (cap : Nat) (cs : List Value) : Prop :=
  (cap = 0 ∧ cs = []) ∨ ∃ b blk t fr, a = some (at_ b 0) ∧ G.w0.heap[b.1]? = some (.cells blk t fr) ∧ cs.length ≤ cap ∧ b.2 + cap ≤ blk.size ∧ (∀ j, j < cs.length → blk[b.2 + j]? = cs[j]?) ∧ ¬ G.O b.1
structure Inv (G : Ctx) (m : GM) (h : Heap) (w : World) : Prop where
  len : m.length = h.length
  obs : ∀ (id : Nat) ob g, hget h id = some ob → m[id]? = some g → ObRel m g w ob
  own : ∀ (id : Nat) ob g b, hget h id = some ob → m[id]? = some g → g.addr = some b → Own G ob.ro b.1
  dist : ∀ (i j : Nat) oi oj gi gj b c, i ≠ j → hget h i = some oi → hget h j = some oj → oi.ro = false → oj.ro = false → m[i]? = some gi → m[j]? = some gj →
    gi.addr = some b → gj.addr = some c → b.1 ≠ c.1
  str : Str G.w0 w
  size : G.w0.heap.size ≤ w.heap.size
  frame : ∀ b, b < G.w0.heap.size → ¬ G.O b → w.heap[b]? = G.w0.heap[b]?
  fz : ∀ a cap cs, FZ.ok a cap cs → FzW G a cap cs
  gh : ∀ x ∈ G.gh, x.1 < h.length ∧ ∀ ob, hget h x.1 = some ob → w.heap[x.2.1]? = some x.2.2 ∧ x.2.2.isCells = false
theorem Placed.ext {g : Gh} {w w' : World} (e : Ext w w') {ro : Bool} {cs : List Value} (h : Placed g w ro cs) : Placed g w' ro cs := by
  rcases h with h | ⟨b, blk, t, fr, h1, h2, h3⟩
  · exact .inl h
  · exact .inr ⟨b, blk, t, fr, h1, e.get h2, h3⟩
theorem Inv.ext {G : Ctx} {m : GM} {h : Heap} {w w' : World} (i : Inv G m h w) (e : Ext w w') : Inv G m h w' :=
  ⟨i.len, fun id ob g h1 h2 => ⟨(i.obs id ob g h1 h2).1, let ⟨cs, a, b⟩ := (i.obs id ob g h1 h2).2; ⟨cs, a, b.ext e⟩⟩, i.own, i.dist, i.str.trans e.str,
   Nat.le_trans i.size e.size, fun b hb ho => (e.block b (Nat.lt_of_lt_of_le hb i.size)).trans (i.frame b hb ho), i.fz, fun x hx => ⟨(i.gh x hx).1, fun ob ho => let ⟨h1, h2⟩ := (i.gh x hx).2 ob ho; ⟨e.get h1, h2⟩⟩⟩
theorem hget_lt {h : Heap} {i : Nat} {o : Ob} (hg : hget h i = some o) : i < h.length := by
  induction h generalizing i with
  | nil => simp [hget] at hg
  | cons x r ih =>
    cases i with
    | zero => simp
    | succ i => simp only [hget] at hg; have := ih hg; simp; omega
theorem hget_append_left {h r : Heap} {i : Nat} (hi : i < h.length) : hget (h ++ r) i = hget h i := by
  induction h generalizing i with
  | nil => simp at hi
  | cons x t ih =>
    cases i with
    | zero => rfl
    | succ i => simp only [List.cons_append, hget]; exact ih (by simpa using hi)
theorem hget_append_right {h r : Heap} {i : Nat} (hi : h.length ≤ i) : hget (h ++ r) i = hget r (i - h.length) := by
  induction h generalizing i with
  | nil => simp
  | cons x t ih =>
    cases i with
    | zero => simp at hi
    | succ i => simp only [List.cons_append, hget, List.length_cons]; rw [ih (by simpa using hi)]; congr 1; omega
theorem hset_length (h : Heap) (i : Nat) (o : Option Ob) : (hset h i o).length = h.length := by
  induction h generalizing i with
  | nil => rfl
  | cons x t ih => cases i <;> simp [hset, ih]
theorem hget_hset_ne {h : Heap} {i j : Nat} {o : Option Ob} (hne : i ≠ j) : hget (hset h i o) j = hget h j := by
  induction h generalizing i j with
  | nil => rfl
  | cons x t ih =>
    cases i with
    | zero => cases j with
      | zero => exact absurd rfl hne
      | succ j => rfl
    | succ i => cases j with
      | zero => rfl
      | succ j => simp only [hset, hget]; exact ih (by omega)
theorem hget_hset_same {h : Heap} {i : Nat} {o : Option Ob} (hi : i < h.length) : hget (hset h i o) i = o := by
  induction h generalizing i with
  | nil => simp at hi
  | cons x t ih => cases i with
    | zero => rfl
    | succ i => simp only [hset, hget]; exact ih (by simpa using hi)
theorem eget_eset_same {e : Env} {i : Nat} {v : AV} (hi : i < e.length) : eget (eset e i v) i = v := by
  induction e generalizing i with
  | nil => simp at hi
  | cons x t ih => cases i with
    | zero => rfl
    | succ i => simp only [eset, eget]; exact ih (by simpa using hi)
theorem eget_eset_ne {e : Env} {i j : Nat} {v : AV} (hne : i ≠ j) : eget (eset e i v) j = eget e j := by
  induction e generalizing i j with
  | nil => rfl
  | cons x t ih =>
    cases i with
    | zero => cases j with
      | zero => exact absurd rfl hne
      | succ j => rfl
    | succ i => cases j with
      | zero => rfl
      | succ j => simp only [eset, eget]; exact ih (by omega)
theorem eset_length (e : Env) (i : Nat) (v : AV) : (eset e i v).length = e.length := by
  induction e generalizing i with
  | nil => rfl
  | cons x t ih => cases i <;> simp [eset, ih]
theorem eget_out {e : Env} {i : Nat} (hi : e.length ≤ i) : eget e i = .top := by
  induction e generalizing i with
  | nil => rfl
  | cons x t ih => cases i with
    | zero => simp at hi
    | succ i => simp only [eget]; exact ih (by simpa using hi)
def isTop : AV → Prop
  | .tv (.lf .top) => True
  | _ => False
structure ERel (G : Ctx) (m : GM) (env : Env) (a : Act) : Prop where
  len : env.length ≤ a.tmps.size
  dfr : a.defers = G.dfs
  val : ∀ i, isTop (eget env i) ∨ AVRel m (eget env i) (a.tmps.getD i undef)
theorem ERel.mono {G : Ctx} {m m' : GM} (hp : Pre m m') {env : Env} {a : Act} (h : ERel G m env a) : ERel G m' env a :=
  ⟨h.len, h.dfr, fun i => (h.val i).imp id (AVRel.mono hp)⟩
theorem ERel.put {G : Ctx} {m : GM} {env : Env} {a : Act} (h : ERel G m env a) {d : Option Tmp} {x : AV} {v : Value} (hx : isTop x ∨ AVRel m x v) :
    ERel G m (dstSet env d x) (a.put d v) := by
  cases d with
  | none => exact h
  | some d =>
    simp only [dstSet, Act.put]
    refine ⟨by simp [eset_length]; exact h.len, h.dfr, fun i => ?_⟩
    by_cases hi : d = i
    · subst hi
      by_cases hd : d < env.length
      · rw [eget_eset_same hd]
        have : d < a.tmps.size := Nat.lt_of_lt_of_le hd h.len
        simp only [Array.getD_eq_getD_getElem?, Array.getElem?_setIfInBounds, if_pos this, if_true]
        simpa using hx
      · rw [eget_out (by rw [eset_length]; exact Nat.le_of_not_lt hd)]; exact .inl trivial
    · rw [eget_eset_ne hi]
      have := h.val i
      simp only [Array.getD_eq_getD_getElem?, Array.getElem?_setIfInBounds, if_neg hi] at this ⊢
      exact this
theorem opd_rel {P : Program} {G : Ctx} {m : GM} {env : Env} {a : Act} (h : ERel G m env a) {t : TypeId} {x : Operand} {v : AV} (hx : opd P env t x = some v) : AVRel m v (a.eval x) := by
  unfold opd at hx
  split at hx
  · rename_i i
    split at hx
    · cases hx
    · rename_i hne
      simp only [Option.some.injEq] at hx
      rcases h.val i with hv | hv
      · revert hv
        generalize eget env i = q at *
        subst hx
        intro hv
        match q, hv, hne with
        | .tv (.lf .top), _, hne => exact absurd rfl (hne)
      · rw [hx] at hv; exact hv
  · rename_i c
    split at hx
    · rename_i y hy
      simp only [Option.some.injEq] at hx
      subst hx
      exact constTV_rel hy
    · cases hx
  · cases hx; rfl
  · cases hx
end
section
variable [FZ]
variable {P : Program}
theorem run_under {w : World} {t : TypeId} {d : TypeDesc} (h : P.underlying t = some d) : (underlying t).run P w = .ok d w := by simp [underlying, h]
theorem run_size {w : World} {t : TypeId} {i : TypeInfo} (h : P.info? t = some i) : (sizeOf t).run P w = .ok i.size w := by simp [sizeOf, typeInfo, h]
theorem info_of_under {t : TypeId} {d : TypeDesc} (h : P.underlying t = some d) : ∃ i, P.info? t = some i := by
  unfold Program.underlying at h
  cases hi : P.info? t with
  | none => rw [hi] at h; cases h
  | some i => exact ⟨i, rfl⟩
theorem run_isAgg {w : World} {t : TypeId} {d : TypeDesc} (h : P.underlying t = some d) : (isAgg t).run P w = .ok (isAggT P t) w := by
  simp only [isAgg, Sem.run_bind, run_under h, Result.andThen_ok, isAggT, h]
  cases d <;> rfl
theorem add_at (b : Nat × Nat) (o j : Nat) : (at_ b o).add j = at_ b (o + j) := by
  unfold Addr.add at_
  split
  · rename_i h; subst h; rfl
  · simp [Nat.add_assoc]
theorem isAgg_under {t : TypeId} (h : isAggT P t = true) : ∃ d, P.underlying t = some d := by
  unfold isAggT at h
  cases hd : P.underlying t with
  | none => rw [hd] at h; cases h
  | some d => exact ⟨d, rfl⟩
theorem ldE_run {m : GM} {t : TypeId} {es : List LV} {v : TV} {cs : List Value} (h : ldE P t es = some v) (ho : OCells m es cs) :
    ∃ val, TVRel m v val ∧
      (∀ (b : Nat × Nat) (off : Nat) (w : World), (∀ j u, cs[j]? = some u → w.cell? (at_ b (off + j)) = some u) → (loadVar t (at_ b off)).run P w = .ok val w) ∧
      (∀ (A : Array Value) (off : Nat) (w : World) (tail : List Value), A.toList.drop off = cs ++ tail → (part t A off).run P w = .ok val w) := by
  unfold ldE at h
  split at h
  · rename_i hag
    split at h
    · rename_i l hl
      simp only [Option.some.injEq] at h
      subst h
      obtain ⟨d, hd⟩ := isAgg_under hag
      obtain ⟨i, hi⟩ := info_of_under hd
      have hsz : szOf P t = i.size := by simp [szOf, hi]
      obtain ⟨h1, h2⟩ := takeW_cells hl ho
      refine ⟨.agg (cs.take (szOf P t)).toArray, ⟨_, rfl, by simpa using h2⟩, fun b off w hc => ?_, fun A off w tail hA => ?_⟩
      · simp only [loadVar, Sem.run_bind, run_isAgg hd, Result.andThen_ok, hag, if_true, run_size hi]
        have := run_loadCells_list (P := P) (w := w) (at_ b off) (cs.take i.size) (fun j u hu => by
          rw [add_at]
          refine hc j u ?_
          rw [List.getElem?_take] at hu
          split at hu
          · exact hu
          · cases hu)
        have hl : (cs.take i.size).length = i.size := by rw [List.length_take]; omega
        rw [hl] at this
        rw [this, hsz]
        rfl
      · simp only [part, Sem.run_bind, run_isAgg hd, Result.andThen_ok, hag, if_true, run_size hi, hsz]
        simp only [Sem.run_pure, Result.ok.injEq, Value.agg.injEq, and_true]
        apply Array.ext'
        simp only [Array.toList_extract, List.extract_eq_take_drop, hA]
        rw [show off + i.size - off = i.size by omega, List.take_append_of_le_length (by omega)]
    · cases h
  · rename_i hag
    split at h
    · cases h
    · rename_i d hd
      split at h
      · cases h
      · rename_i x r hne
        simp only [Option.some.injEq] at h
        subst h
        obtain ⟨a, b, rfl, hx, hr⟩ := ho
        have hx' : ∃ v, a = [v] ∧ LRel m x v := by
          cases x
          case seq k n l => exact (hne _ _ _ rfl).elim
          all_goals exact hx
        obtain ⟨v, rfl, hv⟩ := hx'
        have hagf : isAggT P t = false := by simpa using hag
        refine ⟨v, hv, fun b off w hc => ?_, fun A off w tail hA => ?_⟩
        · simp only [loadVar, Sem.run_bind, run_isAgg hd, Result.andThen_ok, hagf]
          have := hc 0 v rfl
          simp only [Nat.add_zero] at this
          simp [this]
        · have : A[off]? = some v := by
            have := congrArg (·[0]?) hA
            simpa using this
          simp only [part, Sem.run_bind, run_isAgg hd, Result.andThen_ok, hagf]
          simp [this]
      · cases h
theorem Placed.read {g : Gh} {w : World} {ro : Bool} {cs : List Value} (h : Placed g w ro cs) {b : Nat × Nat} (hb : g.addr = some b) :
    ∀ j u, cs[j]? = some u → w.cell? (at_ b j) = some u := by
  intro j u hu
  rcases h with ⟨rfl, _⟩ | ⟨b', blk, t, fr, h1, h2, h3, h4, h5, h6⟩
  · cases hu
  · rw [hb] at h1
    cases h1
    have hj : j < cs.length := (List.getElem?_eq_some_iff.1 hu).1
    simp only [World.cell?, at_, h2]
    simpa using (h5 j hj).trans hu
theorem Inv.read {G : Ctx} {m : GM} {h : Heap} {w : World} (i : Inv G m h w) {id : Nat} {ob : Ob} {g : Gh} {b : Nat × Nat} (ho : hget h id = some ob) (hg : m[id]? = some g)
    (hb : g.addr = some b) : ∃ cs, OCells m ob.es cs ∧ ∀ w', Ext w w' → ∀ j u, cs[j]? = some u → w'.cell? (at_ b j) = some u := by
  obtain ⟨_, cs, h1, h2⟩ := i.obs id ob g ho hg
  exact ⟨cs, h1, fun w' e => (h2.ext e).read hb⟩
theorem Inv.ghost {G : Ctx} {m : GM} {h : Heap} {w : World} (i : Inv G m h w) {id : Nat} {ob : Ob} (ho : hget h id = some ob) : ∃ g, m[id]? = some g := by
  have := hget_lt ho
  rw [← i.len] at this
  exact ⟨m[id], List.getElem?_eq_getElem this⟩
def PureOK (P : Program) (m : GM) (w : World) (a : Act) (o : Oper) (K : AV → Option Res) (r : Res) : Prop :=
  ∃ av v, K av = some r ∧ AVRel m av v ∧ ∀ w', (isFree P o.op = true ∨ Ext w w') → (execOp a.eval o).run P w' = .ok (.value v) w'
section
variable {G : Ctx} {m : GM} {h : Heap} {w : World} {a : Act} {env : Env} {o : Oper} {K : AV → Option Res} {r : Res}
theorem pure_move (he : ERel G m env a) {x : Operand} (ho : o.op = .move x ∨ o.op = .assign x) (hev : evPure P o env h K = some r) :
    PureOK P m w a o K r := by
  have hev' : (match opd P env o.type x with | some v => K v | none => none) = some r := by
    rcases ho with ho | ho <;> (simp only [evPure, ho] at hev; exact hev)
  split at hev'
  · rename_i v hv
    refine ⟨v, a.eval x, hev', opd_rel he hv, fun w' _ => ?_⟩
    rcases ho with ho | ho <;> simp [execOp, ho]
  · cases hev'
theorem pure_pick (he : ERel G m env a) {c x y : Operand} (ho : o.op = .pick c x y) (hev : evPure P o env h K = some r) : PureOK P m w a o K r := by
  simp only [evPure, ho] at hev
  split at hev
  · rename_i t ht
    have hc : a.eval c = .bool t := opd_rel he ht
    cases t with
    | true =>
      simp only [cond_true] at hev
      split at hev
      · rename_i v hv
        exact ⟨v, a.eval x, hev, opd_rel he hv, fun w' _ => by simp [execOp, ho, hc, asBool]⟩
      · cases hev
    | false =>
      simp only [cond_false] at hev
      split at hev
      · rename_i v hv
        exact ⟨v, a.eval y, hev, opd_rel he hv, fun w' _ => by simp [execOp, ho, hc, asBool]⟩
      · cases hev
  · cases hev
theorem pure_load (hi : Inv G m h w) (he : ERel G m env a) {t : TypeId} {x : Operand} (ho : o.op = .load t x) (hev : evPure P o env h K = some r) : PureOK P m w a o K r := by
  simp only [evPure, ho] at hev
  split at hev
  · rename_i id off hx
    obtain ⟨g, b, hg, hb, hv⟩ : ∃ g b, m[id]? = some g ∧ g.addr = some b ∧ a.eval x = .pointer (some (at_ b off)) := opd_rel he hx
    split at hev
    · rename_i ob hob
      split at hev
      · rename_i es hes
        split at hev
        · rename_i v hld
          obtain ⟨cs, hoc, hrd⟩ := hi.read hob hg hb
          obtain ⟨h1, h2⟩ := dropW_cells hes hoc
          obtain ⟨val, hval, hrun, _⟩ := ldE_run hld h2
          refine ⟨_, val, hev, hval, fun w' e => ?_⟩
          have e := e.resolve_left (by rw [ho]; simp [isFree])
          have := hrun b off w' (fun j u hu => hrd w' e (off + j) u (by rw [List.getElem?_drop] at hu; exact hu))
          simp [execOp, ho, hv, Instr.loadAt, Instr.sureAddr, this]
        · cases hev
      · cases hev
    · cases hev
  · rename_i id off i o2 hx
    obtain ⟨g, b, hg, hb, hv⟩ : ∃ g b, m[id]? = some g ∧ g.addr = some b ∧ a.eval x = .pointer (some (at_ b (off + i * g.ew off + o2))) := opd_rel he hx
    split at hev
    · rename_i ob hob
      split at hev
      · rename_i k n l post hes
        split at hev
        · rename_i es hes2
          split at hev
          · rename_i v hld
            cases hlt : decide (i < l.length) with
            | false => rw [hlt] at hev; cases hev
            | true =>
              rw [hlt, cond_true] at hev
              have hlt' : i < l.length := of_decide_eq_true hlt
              obtain ⟨cs, hoc, hrd⟩ := hi.read hob hg hb
              obtain ⟨h1, h2⟩ := dropW_cells hes hoc
              obtain ⟨_, hew⟩ := (hi.obs id ob g hob hg).1 off k n l post hes
              obtain ⟨c1, c2, hcs, ⟨_, rfl⟩, _⟩ := h2
              obtain ⟨h3, h4⟩ := dropW_cells hes2 (toLV_cells m k (l.getD i k.zero))
              obtain ⟨val, hval, hrun, _⟩ := ldE_run hld h4
              refine ⟨_, val, hev, hval, fun w' e => ?_⟩
              have e := e.resolve_left (by rw [ho]; simp [isFree])
              have := hrun b (off + i * g.ew off + o2) w' (fun j u hu => hrd w' e (off + i * g.ew off + o2 + j) u (by
                rw [List.getElem?_drop] at hu
                have hj : o2 + j < k.w := by
                  have := (List.getElem?_eq_some_iff.1 hu).1
                  rwa [cv_length] at this
                have h5 : cs[off + (i * k.w + (o2 + j))]? = some u := by
                  rw [← List.getElem?_drop, hcs, List.getElem?_append_left (by
                    rw [cvs_length]
                    have : (i + 1) * k.w ≤ l.length * k.w := Nat.mul_le_mul_right _ hlt'
                    rw [Nat.add_mul] at this; omega), cvs_getD k l i hlt' _ hj]
                  exact hu
                rw [← hew]
                rw [← h5]; congr 1; omega))
              simp [execOp, ho, hv, Instr.loadAt, Instr.sureAddr, this]
          · cases hev
        · cases hev
      · cases hev
    · cases hev
  · cases hev
theorem pure_nilCheck (he : ERel G m env a) {x : Operand} (ho : o.op = .nilCheck x) (hev : evPure P o env h K = some r) : PureOK P m w a o K r := by
  simp only [evPure, ho] at hev
  split at hev
  · rename_i id off hx
    have hr := opd_rel he hx
    obtain ⟨g, b, hg, hb, hv⟩ := hr
    exact ⟨_, _, hev, ⟨g, b, hg, hb, rfl⟩, fun w' _ => by simp [execOp, ho, hv]⟩
  · rename_i id off i o2 hx
    have hr := opd_rel he hx
    obtain ⟨g, b, hg, hb, hv⟩ := hr
    exact ⟨_, _, hev, ⟨g, b, hg, hb, rfl⟩, fun w' _ => by simp [execOp, ho, hv]⟩
  · cases hev
theorem szOf_pos {t : TypeId} (h : ¬ szOf P t = 0) : ∃ i, P.info? t = some i ∧ i.size ≠ 0 := by
  unfold szOf at h
  cases hi : P.info? t with
  | none => rw [hi] at h; exact absurd rfl h
  | some i => rw [hi] at h; exact ⟨i, rfl, h⟩
theorem pure_fieldAddr (he : ERel G m env a) {s : TypeId} {x : Operand} {f : Nat}
    (ho : o.op = .fieldAddr s x f) (hev : evPure P o env h K = some r) : PureOK P m w a o K r := by
  simp only [evPure, ho] at hev
  split at hev
  · rename_i fs id off hs hx
    obtain ⟨g, b, hg, hb, hv⟩ : ∃ g b, m[id]? = some g ∧ g.addr = some b ∧ a.eval x = .pointer (some (at_ b off)) := opd_rel he hx
    split at hev
    · rename_i fd hfd
      split at hev
      · cases hev
      · rename_i hz
        obtain ⟨i, hin, hne⟩ := szOf_pos hz
        refine ⟨_, _, hev, ⟨g, b, hg, hb, rfl⟩, fun w' _ => ?_⟩
        simp [execOp, ho, hv, Instr.fieldAt, Instr.sureAddr, run_under hs, hfd, fieldPlace, run_size hin, hne, add_at]
    · cases hev
  · rename_i fs id off i o2 hs hx
    obtain ⟨g, b, hg, hb, hv⟩ : ∃ g b, m[id]? = some g ∧ g.addr = some b ∧ a.eval x = .pointer (some (at_ b (off + i * g.ew off + o2))) := opd_rel he hx
    split at hev
    · rename_i fd hfd
      split at hev
      · cases hev
      · rename_i hz
        obtain ⟨i', hin, hne⟩ := szOf_pos hz
        refine ⟨_, _, hev, ⟨g, b, hg, hb, rfl⟩, fun w' _ => ?_⟩
        simp [execOp, ho, hv, Instr.fieldAt, Instr.sureAddr, run_under hs, hfd, fieldPlace, run_size hin, hne, add_at, Nat.add_assoc]
    · cases hev
  · cases hev
theorem pure_field (he : ERel G m env a) {s : TypeId} {x : Operand} {f : Nat} (ho : o.op = .field s x f) (hev : evPure P o env h K = some r) : PureOK P m w a o K r := by
  simp only [evPure, ho] at hev
  split at hev
  · rename_i fs l hs hx
    obtain ⟨cs, hv, hoc⟩ : ∃ cs, a.eval x = .agg cs ∧ OCells m l cs.toList := opd_rel he hx
    split at hev
    · rename_i fd hfd
      split at hev
      · rename_i es hes
        split at hev
        · rename_i v hld
          obtain ⟨h1, h2⟩ := dropW_cells hes hoc
          obtain ⟨val, hval, _, hrun⟩ := ldE_run hld h2
          refine ⟨_, val, hev, hval, fun w' _ => ?_⟩
          have := hrun cs fd.offset w' [] (List.append_nil _).symm
          simp [execOp, ho, hv, Instr.field, run_under hs, hfd, asAgg, this]
        · cases hev
      · cases hev
    · cases hev
  · cases hev
theorem int_opd (he : ERel G m env a) {t : TypeId} {x : Operand} {n : Int} (hx : intArg (opd P env t x) = some n) : ∃ k, a.eval x = .int k n := by
  unfold intArg at hx
  split at hx
  · rename_i k n' hk
    simp only [Option.some.injEq] at hx
    subst hx
    exact ⟨k, opd_rel he hk⟩
  · cases hx
theorem pure_extract (he : ERel G m env a) {x : Operand} {i : Nat} (ho : o.op = .extract x i) (hev : evPure P o env h K = some r) : PureOK P m w a o K r := by
  simp only [evPure, ho] at hev
  split at hev
  · rename_i l hx
    obtain ⟨vs, hv, hvs⟩ : ∃ vs, a.eval x = .tuple vs ∧ TVs m l vs.toList := opd_rel he hx
    split at hev
    · rename_i v hl
      have key : ∀ (l : List TV) (vs : List Value) (i : Nat), TVs m l vs → l[i]? = some v → ∃ u, vs[i]? = some u ∧ TVRel m v u := by
        intro l
        induction l with
        | nil => intro vs i _ h; cases h
        | cons y l ih =>
          intro vs i h1 h2
          cases vs with
          | nil => exact h1.elim
          | cons z vs =>
            cases i with
            | zero => simp at h2; subst h2; exact ⟨z, rfl, h1.1⟩
            | succ i => exact ih vs i h1.2 (by simpa using h2)
      obtain ⟨u, hu, hr⟩ := key l vs.toList i hvs hl
      have hu' : vs[i]? = some u := by simpa using hu
      refine ⟨_, u, hev, hr, fun w' _ => ?_⟩
      simp [execOp, ho, hv, Instr.extract, hu']
    · cases hev
  · cases hev
theorem boxIds_rel {m : GM} : ∀ {vs : List TV} {ids : List Nat} {xs : List Value}, boxIds vs = some ids → TVs m vs xs → CapRel m ids xs
  | [], ids, xs, h, hx => by
    simp only [boxIds, Option.some.injEq] at h
    subst h
    cases xs with
    | nil => trivial
    | cons x xs => exact hx.elim
  | v :: r, ids, xs, h, hx => by
    cases xs with
    | nil => exact hx.elim
    | cons x xs =>
      unfold boxIds at h
      split at h
      · rename_i heq; cases heq
      · rename_i id r' heq
        cases heq
        split at h
        · rename_i l hl
          cases h
          obtain ⟨g, b, hg, hb, hv⟩ := hx.1
          exact ⟨⟨g, b, hg, hb, hv⟩, boxIds_rel hl hx.2⟩
        · cases h
      · cases h
end
end
section
variable [FZ]
variable {P : Program}
section
variable {G : Ctx} {m : GM} {h : Heap} {w : World} {a : Act} {env : Env} {o : Oper} {K : AV → Option Res} {r : Res}
theorem intOp_run {op : BinOp} {k : IntKind} {x y : Int} {K : LV → Option Res} {r : Res} (hev : intOp op k x y K = some r) (m : GM) (t : TypeId) :
    ∃ lv v, K lv = some r ∧ LRel m lv v ∧ ∀ w, (binOp op t (.int k x) (.int k y)).run P w = .ok v w := by
  unfold intOp at hev
  split at hev
  case h_4 =>
    cases hz : decide (y = 0) with
    | true => rw [hz] at hev; cases hev
    | false =>
      rw [hz] at hev
      have hz' : ¬ y = 0 := of_decide_eq_false hz
      exact ⟨_, _, hev, rfl, fun w => by simp [binOp, Op.intDiv, hz']⟩
  case h_5 =>
    cases hz : decide (y = 0) with
    | true => rw [hz] at hev; cases hev
    | false =>
      rw [hz] at hev
      have hz' : ¬ y = 0 := of_decide_eq_false hz
      exact ⟨_, _, hev, rfl, fun w => by simp [binOp, Op.intDiv, hz']⟩
  all_goals first
    | (cases hev; done)
    | exact ⟨_, _, hev, rfl, fun w => by simp only [binOp, ne_eq, not_true_eq_false, if_false, Op.intBits]; rfl⟩
    | exact ⟨_, _, hev, rfl, fun w => by simp [binOp, Op.intArith]⟩
    | exact ⟨_, _, hev, rfl, fun w => by simp [binOp, Op.intCmp]⟩
theorem shiftOp_run {op : BinOp} {k k' : IntKind} {x y : Int} {K : LV → Option Res} {r : Res} (hev : shiftOp op k x y K = some r) (m : GM) (t : TypeId) :
    ∃ lv v, K lv = some r ∧ LRel m lv v ∧ ∀ w, (binOp op t (.int k x) (.int k' y)).run P w = .ok v w := by
  unfold shiftOp at hev
  split at hev
  all_goals first
    | (cases hev; done)
    | (cases hz : decide (y < 0) with
       | true => rw [hz] at hev; cases hev
       | false =>
         rw [hz] at hev
         have hz' : ¬ y < 0 := of_decide_eq_false hz
         exact ⟨_, _, hev, rfl, fun w => by simp [binOp, Op.shift, hz']⟩)
theorem fltOp_run {op : BinOp} {k : FloatKind} {x y : Nat} {K : LV → Option Res} {r : Res} (hev : fltOp op k x y K = some r) (m : GM) (t : TypeId) :
    ∃ lv v, K lv = some r ∧ LRel m lv v ∧ ∀ w, (binOp op t (.float k x) (.float k y)).run P w = .ok v w := by
  unfold fltOp at hev
  split at hev
  · exact ⟨_, _, hev, rfl, fun w => by simp [binOp, Op.floatCmp]⟩
  · exact ⟨_, _, hev, rfl, fun w => by simp [binOp, Op.floatCmp]⟩
  · cases hev
theorem nanOp_run {op : BinOp} {k : FloatKind} {x y : Nat} {K : LV → Option Res} {r : Res} (hev : nanOp op K = some r) (hn : k.format.order x y ≠ some .eq) (m : GM) (t : TypeId) :
    ∃ lv v, K lv = some r ∧ LRel m lv v ∧ ∀ w, (binOp op t (.float k x) (.float k y)).run P w = .ok v w := by
  unfold nanOp at hev
  have e : (k.format.order x y == some .eq) = false := by simpa using hn
  have e2 : (k.format.order x y != some .eq) = true := by simpa using hn
  split at hev
  · exact ⟨_, _, hev, rfl, fun w => by simp [binOp, Op.floatCmp, e]⟩
  · exact ⟨_, _, hev, rfl, fun w => by simp [binOp, Op.floatCmp, e2]⟩
  · cases hev
theorem fltG {op : BinOp} {k k' : FloatKind} {x y : Nat} {t : TypeId} (w : World) (p q : Operand) : (eqGuard op t p q (.float k x) (.float k' y)).run P w = .ok () w := by
  unfold eqGuard
  split <;> simp
theorem binOpV_run {op : BinOp} {x y : AV} {vx vy : Value} {K : LV → Option Res} {r : Res} (hev : binOpV op x y K = some r) (hx : AVRel m x vx) (hy : AVRel m y vy) (t : TypeId) :
    ∃ lv v, K lv = some r ∧ LRel m lv v ∧ ∀ w, (binOp op t vx vy).run P w = .ok v w ∧ (∀ p q : Operand, (eqGuard op t p q vx vy).run P w = .ok () w) := by
  unfold binOpV at hev
  split at hev
  · rename_i k x k' y
    have hx' : vx = .int k x := hx
    have hy' : vy = .int k' y := hy
    subst hx' hy'
    have hg : ∀ (w : World) (p q : Operand), (eqGuard op t p q (.int k x) (.int k' y)).run P w = .ok () w := by
      intro w p q
      unfold eqGuard
      split <;> simp
    split at hev
    · obtain ⟨lv, v, h1, h2, h3⟩ := shiftOp_run (k' := k') hev m t
      exact ⟨lv, v, h1, h2, fun w => ⟨h3 w, hg w⟩⟩
    · obtain ⟨lv, v, h1, h2, h3⟩ := shiftOp_run (k' := k') hev m t
      exact ⟨lv, v, h1, h2, fun w => ⟨h3 w, hg w⟩⟩
    · split at hev
      · rename_i hk
        subst hk
        obtain ⟨lv, v, h1, h2, h3⟩ := intOp_run hev m t
        exact ⟨lv, v, h1, h2, fun w => ⟨h3 w, hg w⟩⟩
      · cases hev
  · rename_i k x k' y
    have hx' : vx = .float k x := hx
    have hy' : vy = .float k' y := hy
    subst hx' hy'
    have hg : ∀ (w : World) (p q : Operand), (eqGuard op t p q (.float k x) (.float k' y)).run P w = .ok () w := by
      intro w p q
      unfold eqGuard
      split <;> simp
    split at hev
    · rename_i hk
      subst hk
      obtain ⟨lv, v, h1, h2, h3⟩ := fltOp_run hev m t
      exact ⟨lv, v, h1, h2, fun w => ⟨h3 w, hg w⟩⟩
    · cases hev
  · rename_i k k' b
    obtain ⟨c, hx', hn⟩ : ∃ c, vx = .float k c ∧ ∀ d, k.format.order c d ≠ some .eq ∧ k.format.order d c ≠ some .eq := hx
    have hy' : vy = .float k' b := hy
    subst hx' hy'
    split at hev
    · rename_i hk
      subst hk
      obtain ⟨lv, v, h1, h2, h3⟩ := nanOp_run hev ((hn _).1) m t
      exact ⟨lv, v, h1, h2, fun w => ⟨h3 w, fltG w⟩⟩
    · cases hev
  · rename_i k a k'
    obtain ⟨c, hy', hn⟩ : ∃ c, vy = .float k' c ∧ ∀ d, k'.format.order c d ≠ some .eq ∧ k'.format.order d c ≠ some .eq := hy
    have hx' : vx = .float k a := hx
    subst hx' hy'
    split at hev
    · rename_i hk
      subst hk
      obtain ⟨lv, v, h1, h2, h3⟩ := nanOp_run hev ((hn _).2) m t
      exact ⟨lv, v, h1, h2, fun w => ⟨h3 w, fltG w⟩⟩
    · cases hev
  · rename_i k k'
    obtain ⟨c, hx', hn⟩ : ∃ c, vx = .float k c ∧ ∀ d, k.format.order c d ≠ some .eq ∧ k.format.order d c ≠ some .eq := hx
    obtain ⟨c', hy', hn'⟩ : ∃ c, vy = .float k' c ∧ ∀ d, k'.format.order c d ≠ some .eq ∧ k'.format.order d c ≠ some .eq := hy
    subst hx' hy'
    split at hev
    · rename_i hk
      subst hk
      obtain ⟨lv, v, h1, h2, h3⟩ := nanOp_run hev ((hn _).1) m t
      exact ⟨lv, v, h1, h2, fun w => ⟨h3 w, fltG w⟩⟩
    · cases hev
  · rename_i x y
    have hx' : vx = .string x := hx
    have hy' : vy = .string y := hy
    subst hx' hy'
    have hg : ∀ (w : World) (p q : Operand), (eqGuard op t p q (.string x) (.string y)).run P w = .ok () w := by
      intro w p q
      unfold eqGuard
      split <;> simp
    split at hev
    · cases hz : decide (x.size + y.size ≤ 4611686018427387904) with
      | false => rw [hz] at hev; cases hev
      | true =>
        rw [hz] at hev
        have hz' : x.size + y.size ≤ 4611686018427387904 := of_decide_eq_true hz
        refine ⟨_, _, hev, rfl, fun w => ⟨?_, hg w⟩⟩
        have : ¬ (((x.size + y.size : Nat) : Int) > IntKind.i64.max) := by
          have : IntKind.i64.max = 9223372036854775807 := by decide
          rw [this]; omega
        simp only [binOp, Op.stringOp]
        rw [if_neg this]
        rfl
    · exact ⟨_, _, hev, rfl, fun w => ⟨by simp [binOp, Op.stringOp], hg w⟩⟩
    · exact ⟨_, _, hev, rfl, fun w => ⟨by simp [binOp, Op.stringOp], hg w⟩⟩
    · cases hev
  · cases hev
theorem cast_refl {k : EK} (h : k = k) (l : List k.den) : castL h l = l := rfl
theorem ekOf_leaf {e : TypeId} {k : EK} (hk : isLeafK k = true) (he : ekOf P 8 e = some k) :
    (∃ q, k = .int q ∧ ∃ q', P.underlying e = some (.int q')) ∨ (k = .bool ∧ P.underlying e = some .bool) ∨ (k = .str ∧ P.underlying e = some .string) ∨ ∃ fs, P.underlying e = some (.struct fs) := by
  unfold ekOf at he
  split at he
  · rename_i q hq; simp only [Option.some.injEq] at he; subst he; exact .inl ⟨_, rfl, _, hq⟩
  · rename_i hq; simp only [Option.some.injEq] at he; subst he; exact .inr (.inl ⟨rfl, hq⟩)
  · rename_i hq; simp only [Option.some.injEq] at he; subst he; exact .inr (.inr (.inl ⟨rfl, hq⟩))
  · rename_i fs hq; exact .inr (.inr (.inr ⟨fs, hq⟩))
  · split at he <;> first
      | (simp only [Option.some.injEq] at he; subst he; cases hk)
      | cases he
  · cases he
theorem elem_eq {d : Nat} {e : TypeId} {k : EK} (hk : isLeafK k = true) (he : ekOf P 8 e = some k) (hn : notStruct P e = true) (x y : k.den) (w : World) :
    ∃ vx vy, k.cv x = [vx] ∧ k.cv y = [vy] ∧ (Op.equalIn (d + 1) e vx vy).run P w = .ok (k.beq x y) w ∧ isAggT P e = false ∧ ∃ dt, P.underlying e = some dt := by
  rcases ekOf_leaf hk he with ⟨q, rfl, q', hu⟩ | ⟨rfl, hu⟩ | ⟨rfl, hu⟩ | ⟨fs, hu⟩
  · exact ⟨_, _, rfl, rfl, by simp [Op.equalIn, run_under hu, EK.beq], by simp [isAggT, hu], _, hu⟩
  · exact ⟨_, _, rfl, rfl, by simp [Op.equalIn, run_under hu, EK.beq], by simp [isAggT, hu], _, hu⟩
  · exact ⟨_, _, rfl, rfl, by simp [Op.equalIn, run_under hu, EK.beq, beq_toListBytes], by simp [isAggT, hu], _, hu⟩
  · simp [notStruct, hu] at hn
theorem cvs_leaf_get {k : EK} (hw : k.w = 1) (l : List k.den) (j : Nat) (hj : j < l.length) : (cvs k l)[j]? = (k.cv (l.getD j k.zero))[0]? := by
  have := cvs_getD k l j hj 0 (by omega)
  rw [hw] at this
  simpa using this
theorem lbeq_drop {k : EK} {l l' : List k.den} {s : Nat} (h1 : s < l.length) (h2 : s < l'.length) :
    lbeq k (l.drop s) (l'.drop s) = (k.beq (l.getD s k.zero) (l'.getD s k.zero) && lbeq k (l.drop (s + 1)) (l'.drop (s + 1))) := by
  rw [List.drop_eq_getElem_cons h1, List.drop_eq_getElem_cons h2]
  simp only [lbeq]
  congr 2
  · simp [List.getD_eq_getElem?_getD, h1]
  · simp [List.getD_eq_getElem?_getD, h2]
theorem lbeq_run {d : Nat} {n : Nat} {e : TypeId} {k : EK} {i : TypeInfo} (hi : P.info? e = some i) (hsz : i.size = 1) (hk : isLeafK k = true) (he : ekOf P 8 e = some k) (hn : notStruct P e = true)
    {l l' : List k.den} (hl : l.length = n) (hl' : l'.length = n)
    (t : TypeId) (ht : P.underlying t = some (.array n e)) (w : World) :
    (Op.equalIn (d + 2) t (.agg (cvs k l).toArray) (.agg (cvs k l').toArray)).run P w = .ok (lbeq k l l') w := by
  have hw : k.w = 1 := by cases k <;> first | rfl | cases hk
  rw [Op.equalIn]
  simp only [Sem.run_bind, run_under ht, Result.andThen_ok, run_size hi, hsz, Nat.mul_one]
  rw [Std.Legacy.Range.forIn_eq_forIn_range']
  have key : ∀ (mm s : Nat), s + mm = n →
      (forIn (m := Sem) (List.range' s mm) ((none : Option Bool), ()) fun i_1 __s => do
            let __do_lift ← part e (cvs k l).toArray i_1
            let __do_lift_1 ← part e (cvs k l').toArray i_1
            let __do_lift ← Op.equalIn (d + 1) e __do_lift __do_lift_1
            if (!__do_lift) = true then pure (ForInStep.done (some false, ())) else pure (ForInStep.yield (none, ()))).run P w
        = .ok (if lbeq k (l.drop s) (l'.drop s) = true then (none, ()) else (some false, ())) w := by
    intro mm
    induction mm with
    | zero =>
      intro s hs
      simp only [List.range'_zero, List.forIn_nil, Sem.run_pure]
      rw [List.drop_eq_nil_of_le (by omega), List.drop_eq_nil_of_le (by omega)]
      rfl
    | succ mm ih =>
      intro s hs
      have h1 : s < l.length := by omega
      have h2 : s < l'.length := by omega
      obtain ⟨vx, vy, hx, hy, heq, hag, dt, hdt⟩ := elem_eq (d := d) hk he hn (l.getD s k.zero) (l'.getD s k.zero) w
      have p1 : (part e (cvs k l).toArray s).run P w = .ok vx w := by
        have := cvs_leaf_get hw l s h1
        rw [hx] at this
        simp only [part, Sem.run_bind, run_isAgg hdt, Result.andThen_ok, hag, Bool.false_eq_true, if_false, List.getElem?_toArray, this]
        rfl
      have p2 : (part e (cvs k l').toArray s).run P w = .ok vy w := by
        have := cvs_leaf_get hw l' s h2
        rw [hy] at this
        simp only [part, Sem.run_bind, run_isAgg hdt, Result.andThen_ok, hag, Bool.false_eq_true, if_false, List.getElem?_toArray, this]
        rfl
      simp only [List.range'_succ, List.forIn_cons, Sem.run_bind, p1, p2, heq, Result.andThen_ok, Sem.run_ite, Sem.run_pure, lbeq_drop h1 h2]
      cases hb : k.beq (l.getD s k.zero) (l'.getD s k.zero) with
      | false => simp
      | true => simpa using ih (s + 1) (by omega)
  have := key n 0 (by omega)
  simp only [List.drop_zero] at this
  have hr : Std.Legacy.Range.size [:n] = n := by simp [Std.Legacy.Range.size]
  rw [hr]
  rw [this]
  simp only [Result.andThen_ok]
  cases lbeq k l l' <;> rfl
theorem szOf_info {t : TypeId} {n : Nat} (h : szOf P t = n) (hn : 0 < n) : ∃ i, P.info? t = some i ∧ i.size = n := by
  unfold szOf at h
  cases hi : P.info? t with
  | none => simp only [hi] at h; omega
  | some i => simp only [hi] at h; exact ⟨i, rfl, h⟩
theorem eqFs_run {g : TypeId → TV → TV → Option Bool} {d : Nat}
    (hg : ∀ t v v' e, g t v v' = some e → ∀ vx vy, TVRel m v vx → TVRel m v' vy → ∀ w, (Op.equalIn d t vx vy).run P w = .ok e w)
    {es es' : List LV} {A B : Array Value} (hA : OCells m es A.toList) (hB : OCells m es' B.toList) (w : World) :
    ∀ (fs : List Field) (e : Bool), eqFs P g fs es es' = some e → (Op.eqFields d A B fs).run P w = .ok e w
  | [], e, h => by
    simp only [eqFs, Option.some.injEq] at h
    subst h
    simp [Op.eqFields]
  | f :: r, e, h => by
    simp only [eqFs] at h
    split at h
    · cases h
    · rename_i hname
      split at h
      · rename_i q q' hq hq'
        split at h
        · rename_i v v' hv hv'
          split at h
          · rename_i b hb
            obtain ⟨_, h1⟩ := dropW_cells hq hA
            obtain ⟨_, h2⟩ := dropW_cells hq' hB
            obtain ⟨x, hx, _, px⟩ := ldE_run hv h1
            obtain ⟨y, hy, _, py⟩ := ldE_run hv' h2
            have hxy := hg _ _ _ _ hb x y hx hy w
            have p1 := px A f.offset w [] (List.append_nil _).symm
            have p2 := py B f.offset w [] (List.append_nil _).symm
            split at h
            · simp only [Option.some.injEq] at h
              subst h
              simp [Op.eqFields, hname, p1, p2, hxy]
              cases b <;> simp
            · split at h
              · rename_i c hc
                simp only [Option.some.injEq] at h
                subst h
                have ih := eqFs_run hg hA hB w _ _ hc
                simp only [Op.eqFields, ne_eq, hname, not_false_eq_true, if_true, Sem.run_bind, p1, p2, Result.andThen_ok, hxy]
                cases b with
                | false => simp
                | true => simpa using ih
              · cases h
          · cases h
        · cases h
      · cases h
theorem eqT_run : ∀ (f : Nat) (t : TypeId) (v v' : TV) (e : Bool), eqT P f t v v' = some e → ∀ vx vy, TVRel m v vx → TVRel m v' vy → ∀ w d, f + 1 ≤ d →
    (Op.equalIn d t vx vy).run P w = .ok e w
  | 0, _, _, _, _, h => by simp [eqT] at h
  | f + 1, t, v, v', e, h => by
    intro vx vy hx hy w d hd
    obtain ⟨d, rfl⟩ : ∃ d', d = d' + 2 := ⟨d - 2, by omega⟩
    unfold eqT at h
    split at h
    · rename_i q hq
      split at h
      · split at h
        · rename_i k x k' y hk
          subst hk
          simp only [Option.some.injEq] at h
          subst h
          have h1 : vx = .int k x := hx
          have h2 : vy = .int k y := hy
          subst h1 h2
          simp [Op.equalIn, run_under hq]
        · cases h
      · cases h
    · rename_i hq
      split at h
      · rename_i x y
        simp only [Option.some.injEq] at h
        subst h
        have h1 : vx = .bool x := hx
        have h2 : vy = .bool y := hy
        subst h1 h2
        simp [Op.equalIn, run_under hq]
      · cases h
    · rename_i hq
      split at h
      · rename_i x y
        simp only [Option.some.injEq] at h
        subst h
        have h1 : vx = .string x := hx
        have h2 : vy = .string y := hy
        subst h1 h2
        simp [Op.equalIn, run_under hq, beq_toListBytes]
      · cases h
    · rename_i fs hq
      split at h
      · rename_i es es'
        split at h
        · cases h
        · rename_i hst
          obtain ⟨A, rfl, hA⟩ := hx
          obtain ⟨B, rfl, hB⟩ := hy
          have hf : P.fieldsOf t = fs := by simp [Program.fieldsOf, hq]
          rw [run_equalIn_struct w (d + 1) t A B (by rw [hf]; exact hq) (by simpa using hst), hf]
          exact eqFs_run (fun t' v1 v2 e1 h1 x y hx' hy' w' => eqT_run f t' v1 v2 e1 h1 x y hx' hy' w' (d + 1) (by omega)) hA hB w _ _ h
      · cases h
    · rename_i n e' hq
      split at h
      · split at h
        · rename_i k n1 l k' n2 l' hk
          subst hk
          split at h
          · rename_i hc
            obtain ⟨c1, c2, c3, c4, rfl, rfl, c7⟩ := hc
            simp only [Option.some.injEq, cast_refl] at h
            subst h
            obtain ⟨A, rfl, x1, x2, hA, ⟨hl, rfl⟩, rfl⟩ := hx
            obtain ⟨B, rfl, y1, y2, hB, ⟨hl', rfl⟩, rfl⟩ := hy
            rw [List.append_nil] at hA hB
            obtain ⟨i, hi, hsz⟩ := szOf_info c4 (by omega)
            have hA' : A = (cvs k l).toArray := by rw [← hA]
            have hB' : B = (cvs k l').toArray := by rw [← hB]
            rw [hA', hB']
            exact lbeq_run hi hsz c1 c3 c2 (hl.resolve_left (by omega)) (hl'.resolve_left (by omega)) t hq w
          · cases h
        · cases h
      · cases h
    · cases h
theorem eq_of {t : TypeId} {vx vy : Value} {e : Bool} {w : World} (hr : (Op.equalIn 10000 t vx vy).run P w = .ok e w)
    (h1 : binOp .eql t vx vy = (do pure (.bool (← Op.equal t vx vy)))) (h2 : binOp .neq t vx vy = (do pure (.bool (!(← Op.equal t vx vy))))) :
    (binOp .eql t vx vy).run P w = .ok (.bool e) w ∧ (binOp .neq t vx vy).run P w = .ok (.bool (!e)) w := by
  have hr' : (Op.equal t vx vy).run P w = .ok e w := hr
  rw [h1, h2]
  simp only [Sem.run_bind, hr', Result.andThen_ok, Sem.run_pure, and_self]
theorem eqIn_bool {d : Nat} {t : TypeId} {a b : Bool} {w : World} (hu : P.underlying t = some .bool) : (Op.equalIn (d + 1) t (.bool a) (.bool b)).run P w = .ok (a == b) w := by
  simp [Op.equalIn, run_under hu]
theorem eqIn_nil {d : Nat} {t el : TypeId} {b : Option Addr} {w : World} (hu : P.underlying t = some (.pointer el)) : (Op.equalIn (d + 1) t (.pointer none) (.pointer b)).run P w = .ok b.isNone w := by
  simp [Op.equalIn, run_under hu]
theorem eqIn_ptr {d : Nat} {t el : TypeId} {a : Addr} {w : World} (hu : P.underlying t = some (.pointer el)) : (Op.equalIn (d + 1) t (.pointer (some a)) (.pointer none)).run P w = .ok false w := by
  simp [Op.equalIn, run_under hu]
theorem eqIn_nils {d : Nat} {t el : TypeId} {w : World} (hu : P.underlying t = some (.slice el)) : (Op.equalIn (d + 1) t (.slice none 0 0) (.slice none 0 0)).run P w = .ok true w := by
  simp [Op.equalIn, run_under hu]
theorem guard_bool {op : BinOp} {t : TypeId} {p q : Operand} {a : Bool} {y : Value} {w : World} : (eqGuard op t p q (.bool a) y).run P w = .ok () w := by unfold eqGuard; split <;> simp
theorem guard_ptr {op : BinOp} {t : TypeId} {p q : Operand} {a : Option Addr} {y : Value} {w : World} : (eqGuard op t p q (.pointer a) y).run P w = .ok () w := by unfold eqGuard; split <;> simp
theorem guard_slice {op : BinOp} {t : TypeId} {p q : Operand} {a : Option Addr} {n c : Nat} {y : Value} {w : World} : (eqGuard op t p q (.slice a n c) y).run P w = .ok () w := by unfold eqGuard; split <;> simp
theorem eqlV_run {t : TypeId} {x y : AV} {e : Bool} (h : eqlV P t x y = some e) {vx vy : Value} (hx : AVRel m x vx) (hy : AVRel m y vy) (w : World) :
    (∀ op p q, (eqGuard op t p q vx vy).run P w = .ok () w) ∧ (binOp .eql t vx vy).run P w = .ok (.bool e) w ∧ (binOp .neq t vx vy).run P w = .ok (.bool (!e)) w := by
  unfold eqlV at h
  split at h
  · rename_i a b
    split at h
    · rename_i hu
      simp only [Option.some.injEq] at h
      subst h
      have h1 : vx = .bool a := hx
      have h2 : vy = .bool b := hy
      subst h1 h2
      exact ⟨fun op p q => guard_bool, eq_of (eqIn_bool (d := 9999) hu) rfl rfl⟩
    · cases h
  · split at h
    · rename_i el hu
      simp only [Option.some.injEq] at h
      subst h
      have h1 : vx = .pointer none := hx
      have h2 : vy = .pointer none := hy
      subst h1 h2
      exact ⟨fun op p q => guard_ptr, eq_of (eqIn_nil (d := 9999) hu) rfl rfl⟩
    · cases h
  · split at h
    · rename_i el hu
      simp only [Option.some.injEq] at h
      subst h
      obtain ⟨g, b, _, _, h1⟩ := hx
      have h2 : vy = .pointer none := hy
      subst h1 h2
      exact ⟨fun op p q => guard_ptr, eq_of (eqIn_ptr (d := 9999) hu) rfl rfl⟩
    · cases h
  · split at h
    · rename_i el hu
      simp only [Option.some.injEq] at h
      subst h
      have h1 : vx = .pointer none := hx
      obtain ⟨g, b, _, _, h2⟩ := hy
      subst h1 h2
      exact ⟨fun op p q => guard_ptr, eq_of (eqIn_nil (d := 9999) hu) rfl rfl⟩
    · cases h
  · split at h
    · rename_i el hu
      simp only [Option.some.injEq] at h
      subst h
      have h1 : vx = .slice none 0 0 := hx
      have h2 : vy = .slice none 0 0 := hy
      subst h1 h2
      exact ⟨fun op p q => guard_slice, eq_of (eqIn_nils (d := 9999) hu) rfl rfl⟩
    · cases h
  · rename_i l l'
    split at h
    · cases h
    · rename_i hgd
      have hq := eqT_run 8 t _ _ _ h vx vy hx hy w 10000 (by omega)
      obtain ⟨A, rfl, _⟩ := hx
      obtain ⟨B, rfl, _⟩ := hy
      refine ⟨fun op p q => run_eqGuard_agg w op t p q A B (by simpa using hgd), ?_, ?_⟩
      · rw [run_eql_struct, hq]; rfl
      · rw [run_neq_struct, hq]; rfl
  · cases h
theorem pure_unOp (he : ERel G m env a) {op : UnOp} {t : TypeId} {x : Operand} (ho : o.op = .unOp op t x) (hev : evPure P o env h K = some r) : PureOK P m w a o K r := by
  simp only [evPure, ho] at hev
  split at hev
  · rename_i b hx
    have hv : a.eval x = .bool b := opd_rel he hx
    exact ⟨_, _, hev, rfl, fun w' _ => by simp [execOp, ho, hv, Op.unary]⟩
  · rename_i k n hx
    have hv : a.eval x = .int k n := opd_rel he hx
    exact ⟨_, _, hev, rfl, fun w' _ => by simp [execOp, ho, hv, Op.unary, Op.intArith]⟩
  · rename_i k n hx
    have hv : a.eval x = .int k n := opd_rel he hx
    simp only [intOp] at hev
    exact ⟨_, _, hev, rfl, fun w' _ => by simp only [execOp, ho, hv, Op.unary]; rfl⟩
  · cases hev
end
end
section
variable [FZ]
variable {P : Program}
section
variable {G : Ctx} {m : GM} {h : Heap} {w : World} {a : Act} {env : Env} {o : Oper} {K : AV → Option Res} {r : Res}
theorem drop0 (l : List LV) : dropW l 0 = some l := by cases l <;> rfl
theorem sliceForm_rel (hi : Inv G m h w) {x : LV} {v : Value} {id off lo len : Nat} {cap : Option Nat} (hs : sliceForm h x = some (id, off, lo, len, cap)) (hx : LRel m x v) :
    SlRel m id off lo len cap v := by
  unfold sliceForm at hs
  split at hs
  · simp only [Option.some.injEq, Prod.mk.injEq] at hs
    obtain ⟨rfl, rfl, rfl, rfl, rfl⟩ := hs
    exact hx
  · rename_i id'
    split at hs
    · rename_i ob hob
      split at hs
      · rename_i k n l hes
        simp only [Option.some.injEq, Prod.mk.injEq] at hs
        obtain ⟨rfl, rfl, rfl, rfl, rfl⟩ := hs
        obtain ⟨g, hg, hsl⟩ := hx
        have := ((hi.obs _ ob g hob hg).1 0 k n l [] (by rw [hes]; exact drop0 _)).1
        rw [this]
        exact hsl
      · cases hs
    · cases hs
  · cases hs
theorem ewAt_rel (hi : Inv G m h w) {id off n : Nat} (he : ewAt h id off = some n) {g : Gh} (hg : m[id]? = some g) : g.ew off = n := by
  unfold ewAt at he
  split at he
  · rename_i ob hob
    split at he
    · rename_i k n' l r hes
      simp only [Option.some.injEq] at he
      rw [← he, ((hi.obs id ob g hob hg).1 off k n' l r hes).2]
    · cases he
  · cases he
theorem lenAt_rel (hi : Inv G m h w) {id off n : Nat} (he : lenAt h id off = some n) {g : Gh} (hg : m[id]? = some g) : g.ln off = n ∧ 0 < n := by
  unfold lenAt at he
  split at he
  · rename_i ob hob
    split at he
    · rename_i k n' l r hes
      split at he
      · rename_i hpos
        simp only [Option.some.injEq] at he
        subst he
        obtain ⟨hsg, cs, hoc, _⟩ := hi.obs id ob g hob hg
        obtain ⟨_, h2⟩ := dropW_cells hes hoc
        obtain ⟨_, _, _, ⟨hl, _⟩, _⟩ := h2
        have := (hsg off k n' l r hes).1
        exact ⟨by rw [← this]; exact hl.resolve_left (by omega), hpos⟩
      · cases he
    · cases he
  · cases he
theorem bnd_rel (he : ERel G m env a) {d n : Int} {x : Option Operand} (hb : bnd P env d x = some n) : (x = none ∧ n = d) ∨ ∃ y k, x = some y ∧ a.eval y = .int k n := by
  unfold bnd at hb
  split at hb
  · simp only [Option.some.injEq] at hb; exact .inl ⟨rfl, hb.symm⟩
  · rename_i y
    obtain ⟨k, hk⟩ := int_opd he hb
    exact .inr ⟨y, k, rfl, hk⟩
theorem run_bound {w : World} {k : IntKind} {i : Int} {y : Nat} {c : BoundsCode} (h0 : 0 ≤ i) (h1 : i ≤ y) : (Instr.sliceBound (.int k i) y c).run P w = .ok i.toNat w := by
  simp [Instr.sliceBound, asIntOf, h0, h1]
theorem run_bounds {w : World} {b : Bool} {len cap : Nat} {lo hi : Option Value} {l u : Int} (hl : (lo = none ∧ l = 0) ∨ ∃ k, lo = some (.int k l)) (hu : (hi = none ∧ u = len) ∨ ∃ k, hi = some (.int k u))
    (h0 : 0 ≤ l) (h1 : l ≤ u) (h2 : u ≤ cap) : (Instr.sliceBounds b len cap lo hi none).run P w = .ok (l.toNat, u.toNat, cap) w := by
  have hu0 : 0 ≤ u := Int.le_trans h0 h1
  have e2 : ((u.toNat : Nat) : Int) = u := Int.toNat_of_nonneg hu0
  rcases hl with ⟨rfl, rfl⟩ | ⟨k, rfl⟩ <;> rcases hu with ⟨rfl, rfl⟩ | ⟨k', rfl⟩
  · simp [Instr.sliceBounds]
  · simp [Instr.sliceBounds, run_bound hu0 h2]
  · simp [Instr.sliceBounds, run_bound h0 h1]
  · simp [Instr.sliceBounds, run_bound hu0 h2, run_bound (y := u.toNat) h0 (by rw [e2]; exact h1)]
theorem run_bounds3 {w : World} {b : Bool} {len cap : Nat} {lo : Option Value} {kh km : IntKind} {l u mm : Int} (hl : (lo = none ∧ l = 0) ∨ ∃ k, lo = some (.int k l))
    (h0 : 0 ≤ l) (h1 : l ≤ u) (h2 : u ≤ mm) (h3 : mm ≤ cap) : (Instr.sliceBounds b len cap lo (some (.int kh u)) (some (.int km mm))).run P w = .ok (l.toNat, u.toNat, mm.toNat) w := by
  have hu0 : 0 ≤ u := Int.le_trans h0 h1
  have hm0 : 0 ≤ mm := Int.le_trans hu0 h2
  have e2 : ((u.toNat : Nat) : Int) = u := Int.toNat_of_nonneg hu0
  have e3 : ((mm.toNat : Nat) : Int) = mm := Int.toNat_of_nonneg hm0
  rcases hl with ⟨rfl, rfl⟩ | ⟨k, rfl⟩
  · simp [Instr.sliceBounds, run_bound hm0 h3, run_bound (y := mm.toNat) hu0 (by rw [e3]; exact h2)]
  · simp [Instr.sliceBounds, run_bound hm0 h3, run_bound (y := mm.toNat) hu0 (by rw [e3]; exact h2), run_bound (y := u.toNat) h0 (by rw [e2]; exact h1)]
theorem map_none {x : Option Operand} {d n : Int} (he : ERel G m env a) (hb : bnd P env d x = some n) : (x.map a.eval = none ∧ n = d) ∨ ∃ k, x.map a.eval = some (.int k n) := by
  rcases bnd_rel he hb with ⟨rfl, rfl⟩ | ⟨y, k, rfl, hk⟩
  · exact .inl ⟨rfl, rfl⟩
  · exact .inr ⟨k, by simp [hk]⟩
theorem dec_of {p : Prop} [Decidable p] {K : Option Res} {r : Res} (h : cond (decide p) K none = some r) : p ∧ K = some r := by
  by_cases hp : p
  · rw [decide_eq_true hp] at h; exact ⟨hp, h⟩
  · rw [decide_eq_false hp] at h; cases h
theorem SlRel.sub {id off lo len : Nat} {cap : Option Nat} {v : Value} (hs : SlRel m id off lo len cap v) {l u : Nat} {M : Nat}
    (h1 : l ≤ u) (h2 : u ≤ M) (h3 : M ≤ cap.getD len ∨ cap = none) (h4 : u ≤ cap.getD len) (a : Option Addr) (L C : Nat) (hv : v = .slice a L C) (hM : M ≤ C) (cap' : Option Nat) (hcap : ∀ c', cap' = some c' → M - l = c')
    (hcap2 : cap'.getD (u - l) ≤ cap.getD len - l) {ew : Nat} (hew : ∀ g, m[id]? = some g → g.ew off = ew) :
    SlRel m id off (lo + l) (u - l) cap' (.slice (if M = l then a else a.map (·.add (l * ew))) (u - l) (M - l)) := by
  obtain ⟨g, a', c, hg, hv', hle, hc, hln, hb⟩ := hs
  rw [hv'] at hv
  cases hv
  refine ⟨g, _, _, hg, rfl, by omega, hcap, by omega, ?_⟩
  by_cases hz : M = l
  · exact .inl (by omega)
  · rcases hb with hb | ⟨b, hb, ha, hsz⟩
    · exact .inl (by omega)
    · refine .inr ⟨b, hb, ?_, ?_⟩
      · rw [if_neg hz, ha]
        simp only [Option.map_some, add_at, Option.some.injEq]
        rw [← hew g hg, Nat.add_mul]
        congr 1; omega
      · have : (lo + l + (M - l)) * g.ew off ≤ (lo + C) * g.ew off := Nat.mul_le_mul_right _ (by omega)
        omega
theorem pure_slice (hi : Inv G m h w) (he : ERel G m env a) {t : TypeId} {x : Operand} {lo hh mx : Option Operand} (ho : o.op = .slice t x lo hh mx) (hev : evPure P o env h K = some r) : PureOK P m w a o K r := by
  simp only [evPure, ho] at hev
  split at hev
  · rename_i s hx
    have hv : a.eval x = .string s := opd_rel he hx
    split at hev
    · rename_i l u hl hu ht
      obtain ⟨⟨h0, h1, h2⟩, hev⟩ := dec_of hev
      refine ⟨_, _, hev, rfl, fun w' _ => ?_⟩
      have := run_bounds (P := P) (w := w') (b := false) (map_none he hl) (map_none he hu) h0 h1 h2
      simp [execOp, ho, hv, Instr.sliceAt, Instr.slice, run_under ht, this]
    · cases hev
  · rename_i id off hx
    obtain ⟨g, b, hg, hb, hv⟩ : ∃ g b, m[id]? = some g ∧ g.addr = some b ∧ a.eval x = .pointer (some (at_ b off)) := opd_rel he hx
    split at hev
    · rename_i n e ht
      split at hev
      · rename_i hc
        have hew := ewAt_rel hi hc.1 hg
        obtain ⟨hln, hpos⟩ := lenAt_rel hi hc.2 hg
        split at hev
        · rename_i l u hl hu
          obtain ⟨⟨h0, h1, h2⟩, hev⟩ := dec_of hev
          have hsz : ∃ i, P.info? e = some i ∧ i.size = g.ew off := by
            have hc1 := hc.1
            unfold ewAt at hc1
            split at hc1
            · rename_i ob hob
              split at hc1
              · rename_i k n' l' r' hes
                have hkw : k.w = szOf P e := by simpa using hc1
                obtain ⟨i, hin, hiz⟩ := szOf_info hkw.symm k.w_pos
                exact ⟨i, hin, by rw [hiz, hew, hkw]⟩
              · cases hc1
            · cases hc1
          obtain ⟨i, hin, hiz⟩ := hsz
          refine ⟨_, .slice (some (if n = l.toNat then at_ b off else (at_ b off).add (l.toNat * i.size))) (u.toNat - l.toNat) (n - l.toNat), hev, ?_, fun w' _ => ?_⟩
          rotate_left
          · have := run_bounds (P := P) (w := w') (b := false) (map_none he hl) (map_none he hu) h0 h1 h2
            simp [execOp, ho, hv, Instr.sliceAt, Instr.sureAddr, run_under ht, run_size hin, this]
          · have e1 : ((l.toNat : Nat) : Int) = l := Int.toNat_of_nonneg h0
            have e2 : ((u.toNat : Nat) : Int) = u := Int.toNat_of_nonneg (by omega)
            have e3 : (u - l).toNat = u.toNat - l.toNat := by omega
            refine ⟨g, _, _, hg, by rw [e3], by omega, fun c' hc' => by simpa using hc', by simp; omega, ?_⟩
            by_cases hz : n = l.toNat
            · exact .inl (by omega)
            · refine .inr ⟨b, hb, ?_, ?_⟩
              · rw [if_neg hz, add_at, hiz]
              · obtain ⟨ob, hob⟩ : ∃ ob, hget h id = some ob := by
                  have hc1 := hc.1
                  unfold ewAt at hc1
                  split at hc1
                  · rename_i ob hob; exact ⟨ob, hob⟩
                  · cases hc1
                have hc2 := hc.2
                unfold lenAt at hc2
                simp only [hob] at hc2
                split at hc2
                · rename_i k n' l' r' hes
                  split at hc2
                  · simp only [Option.some.injEq] at hc2
                    subst hc2
                    obtain ⟨hsg, cs, hoc, hpl⟩ := hi.obs id ob g hob hg
                    obtain ⟨hle, h3⟩ := dropW_cells hes hoc
                    obtain ⟨c1, c2, hcs, ⟨hl1, rfl⟩, _⟩ := h3
                    have hl2 := hl1.resolve_left (by omega)
                    have hlen : cs.length - off = l'.length * k.w + c2.length := by
                      have := congrArg List.length hcs
                      simpa [cvs_length] using this
                    have hk := (hsg off k n' l' r' hes).2
                    rcases hpl with ⟨rfl, _⟩ | ⟨b', blk, t', fr, h4, h5, h6, h7, _⟩
                    · simp only [List.length_nil] at hlen hle
                      have : 0 < l'.length * k.w := Nat.mul_pos (by omega) k.w_pos
                      omega
                    · rw [hb] at h4
                      cases h4
                      have : l.toNat + (n' - l.toNat) = n' := by omega
                      rw [this, ← hk, ← hl2]
                      omega
                  · cases hc2
                · cases hc2
        · cases hev
      · cases hev
    · cases hev
  · rename_i x' hx1 hx2 hx
    have hv := opd_rel he hx
    split at hev
    · rename_i id off aa len cap e hsf ht
      split at hev
      · rename_i hc
        have hsl := sliceForm_rel hi hsf hv
        obtain ⟨g, A, C, hg, hval, hle, hcap, hln, hb⟩ := hsl
        have hew := ewAt_rel hi hc hg
        have hsz : ∃ i, P.info? e = some i ∧ i.size = g.ew off := by
          have hc1 := hc
          unfold ewAt at hc1
          split at hc1
          · split at hc1
            · rename_i k n' l' r' hes
              have hkw : k.w = szOf P e := by simpa using hc1
              obtain ⟨i, hin, hiz⟩ := szOf_info hkw.symm k.w_pos
              exact ⟨i, hin, by rw [hiz, hew, hkw]⟩
            · cases hc1
          · cases hc1
        obtain ⟨i, hin, hiz⟩ := hsz
        have hCle : cap.getD len ≤ C := by
          cases cap with
          | none => exact hle
          | some c => have := hcap c rfl; simp; omega
        have hsl' : SlRel m id off aa len cap (.slice A len C) := ⟨g, A, C, hg, rfl, hle, hcap, hln, hb⟩
        have hew' : ∀ g', m[id]? = some g' → g'.ew off = g.ew off := fun g' hg' => by rw [hg] at hg'; cases hg'; rfl
        split at hev
        · rename_i mm l u hm hl hu
          split at hev
          · obtain ⟨⟨h0, h1, h2⟩, hev⟩ := dec_of hev
            have e1 : ((l.toNat : Nat) : Int) = l := Int.toNat_of_nonneg h0
            have e2 : ((u.toNat : Nat) : Int) = u := Int.toNat_of_nonneg (by omega)
            have e3 : (u - l).toNat = u.toNat - l.toNat := by omega
            refine ⟨_, .slice (if C = l.toNat then A else A.map (·.add (l.toNat * i.size))) (u.toNat - l.toNat) (C - l.toNat), hev, ?_, fun w' _ => ?_⟩
            rotate_left
            · have := run_bounds (P := P) (w := w') (b := true) (cap := C) (map_none he hl) (map_none he hu) h0 h1 (by omega)
              simp only [execOp, ho, Instr.sliceAt, Instr.slice, Sem.run_bind, run_under ht, Result.andThen_ok, hval, Option.map_none, this, run_size hin, Sem.run_pure]
            · show SlRel m id off _ _ _ _
              rw [hiz, e3]
              exact hsl'.sub (M := C) (by omega) (by omega) (by
                cases cap with
                | none => exact .inr rfl
                | some c => exact .inl (by have := hcap c rfl; simp; omega)) (by omega) A len C rfl (Nat.le_refl _) _ (by
                  intro c' hc'
                  cases cap with
                  | none => cases hc'
                  | some c => simp only [capLess, Option.some.injEq] at hc'; have := hcap c rfl; omega) (by
                  cases cap with
                  | none => simp only [capLess, Option.getD_none] at h2 ⊢; omega
                  | some c => simp [capLess]) hew'
          · rename_i yy y
            split at hev
            · rename_i yy2 y2
              obtain ⟨⟨h0, h1, h2, h3⟩, hev⟩ := dec_of hev
              have e1 : ((l.toNat : Nat) : Int) = l := Int.toNat_of_nonneg h0
              have e2 : ((u.toNat : Nat) : Int) = u := Int.toNat_of_nonneg (by omega)
              have e4 : ((mm.toNat : Nat) : Int) = mm := Int.toNat_of_nonneg (by omega)
              have e3 : (u - l).toNat = u.toNat - l.toNat := by omega
              have e5 : (mm - l).toNat = mm.toNat - l.toNat := by omega
              obtain ⟨ku, hku⟩ : ∃ k, a.eval y2 = .int k u := by
                rcases bnd_rel he hu with ⟨hq, _⟩ | ⟨q, k, hq, hk⟩
                · cases hq
                · cases hq; exact ⟨k, hk⟩
              obtain ⟨km, hkm⟩ : ∃ k, a.eval y = .int k mm := by
                rcases bnd_rel he hm with ⟨hq, _⟩ | ⟨q, k, hq, hk⟩
                · cases hq
                · cases hq; exact ⟨k, hk⟩
              refine ⟨_, .slice (if mm.toNat = l.toNat then A else A.map (·.add (l.toNat * i.size))) (u.toNat - l.toNat) (mm.toNat - l.toNat), hev, ?_, fun w' _ => ?_⟩
              rotate_left
              · have := run_bounds3 (P := P) (w := w') (b := true) (len := len) (cap := C) (kh := ku) (km := km) (map_none he hl) h0 h1 h2 (by omega)
                simp only [execOp, ho, Instr.sliceAt, Instr.slice, Sem.run_bind, run_under ht, Result.andThen_ok, hval, Option.map_some, hku, hkm, this, run_size hin, Sem.run_pure]
              · show SlRel m id off _ _ _ _
                rw [hiz, e3, e5]
                exact hsl'.sub (M := mm.toNat) (by omega) (by omega) (.inl (by omega)) (by omega) A len C rfl (by omega) _ (by
                    intro c' hc'; simpa using hc') (by simp; omega) hew'
            · cases hev
        · cases hev
      · cases hev
    · cases hev
  · cases hev
end
end
section
variable [FZ]
variable {P : Program}
section
variable {G : Ctx} {m : GM} {h : Heap} {w : World} {a : Act} {env : Env} {o : Oper} {K : AV → Option Res} {r : Res}
theorem ew_info (hi : Inv G m h w) {id off : Nat} {e : TypeId} (hc : ewAt h id off = some (szOf P e)) {g : Gh} (hg : m[id]? = some g) : ∃ i, P.info? e = some i ∧ i.size = g.ew off := by
  have hew := ewAt_rel hi hc hg
  unfold ewAt at hc
  split at hc
  · split at hc
    · rename_i k n' l' r' hes
      have hkw : k.w = szOf P e := by simpa using hc
      obtain ⟨i, hin, hiz⟩ := szOf_info hkw.symm k.w_pos
      exact ⟨i, hin, by rw [hiz, hew, hkw]⟩
    · cases hc
  · cases hc
theorem pure_indexAddr (hi : Inv G m h w) (he : ERel G m env a) {t : TypeId} {x ix : Operand} (ho : o.op = .indexAddr t x ix) (hev : evPure P o env h K = some r) : PureOK P m w a o K r := by
  simp only [evPure, ho] at hev
  split at hev
  · rename_i n e id off i ht hx hix
    obtain ⟨g, b, hg, hb, hv⟩ : ∃ g b, m[id]? = some g ∧ g.addr = some b ∧ a.eval x = .pointer (some (at_ b off)) := opd_rel he hx
    obtain ⟨k, hk⟩ := int_opd he hix
    split at hev
    · rename_i hc
      obtain ⟨⟨h0, h1⟩, hev⟩ := dec_of hev
      obtain ⟨inf, hin, hiz⟩ := ew_info hi hc hg
      refine ⟨_, .pointer (some (at_ b (off + i.toNat * g.ew off))), hev, ⟨g, b, hg, hb, rfl⟩, fun w' _ => ?_⟩
      simp [execOp, ho, hv, hk, Instr.indexAt, asIntOf, run_under ht, Instr.sureAddr, run_size hin, h0, h1, add_at, hiz]
    · cases hev
  · rename_i e x' i ht hx hix
    have hv := opd_rel he hx
    obtain ⟨k, hk⟩ := int_opd he hix
    split at hev
    · rename_i id off lo len cap hsf
      split at hev
      · rename_i hc
        obtain ⟨⟨h0, h1⟩, hev⟩ := dec_of hev
        obtain ⟨g, A, C, hg, hval, hle, hcap, hln, hb⟩ := sliceForm_rel hi hsf hv
        obtain ⟨inf, hin, hiz⟩ := ew_info hi hc hg
        rcases hb with hb | ⟨b, hb, hA, hsz⟩
        · omega
        · refine ⟨_, .pointer (some (at_ b (off + (lo + i.toNat) * g.ew off))), hev, ⟨g, b, hg, hb, rfl⟩, fun w' _ => ?_⟩
          subst hA
          simp only [execOp, ho, hval, hk, Instr.indexAt, asIntOf, Sem.run_bind, Sem.run_pure, Result.andThen_ok, run_under ht, h0, h1, and_self, if_true, run_size hin, add_at, hiz, Nat.add_mul, Nat.add_assoc]
      · cases hev
    · cases hev
  · cases hev
theorem data_getD (s : ByteArray) (n : Nat) (hn : n < s.size) : s[n]? = some (s.data.getD n 0) := by
  rw [ByteArray.getElem?_lt' s n hn]
  have h' : n < s.data.size := hn
  simp only [Array.getD_eq_getD_getElem?, Array.getElem?_eq_getElem h', Option.getD_some]
  rfl
theorem pure_index (he : ERel G m env a) {t : TypeId} {x ix : Operand} (ho : o.op = .index t x ix) (hev : evPure P o env h K = some r) : PureOK P m w a o K r := by
  simp only [evPure, ho] at hev
  split at hev
  · rename_i s i hx hix
    have hv : a.eval x = .string s := opd_rel he hx
    obtain ⟨k, hk⟩ := int_opd he hix
    split at hev
    · rename_i ht
      obtain ⟨⟨h0, h1⟩, hev⟩ := dec_of hev
      refine ⟨_, _, hev, rfl, fun w' _ => ?_⟩
      have hb := data_getD s i.toNat (by omega)
      simp only [execOp, ho, hv, hk, Instr.index, asIntOf, Sem.run_bind, Sem.run_pure, Result.andThen_ok, run_under ht, h0, if_true, hb]
    · cases hev
  · rename_i k' n l i hx hix
    obtain ⟨cs, hv, c1, c2, hcs, ⟨hl, rfl⟩, rfl⟩ : ∃ cs, a.eval x = .agg cs ∧ OCells m [.seq k' n l] cs.toList := opd_rel he hx
    obtain ⟨k, hk⟩ := int_opd he hix
    split at hev
    · rename_i n' e ht
      split at hev
      · rename_i hc
        obtain ⟨rfl, hpos, hsz⟩ := hc
        split at hev
        · rename_i v hld
          obtain ⟨⟨h0, h1⟩, hev⟩ := dec_of hev
          have hl' := hl.resolve_left (by omega)
          obtain ⟨inf, hin, hiz⟩ := szOf_info hsz k'.w_pos
          obtain ⟨val, hval, _, hrun⟩ := ldE_run hld (toLV_cells m k' (l.getD i.toNat k'.zero))
          refine ⟨_, val, hev, hval, fun w' _ => ?_⟩
          have hlt : i.toNat < l.length := by omega
          have hdrop : cs.toList.drop (i.toNat * k'.w) = k'.cv (l.getD i.toNat k'.zero) ++ cvs k' (l.drop (i.toNat + 1)) := by
            rw [hcs, List.append_nil, ← cvs_drop, List.drop_eq_getElem_cons hlt]
            simp only [cvs]
            congr 2
            simp [List.getD_eq_getElem?_getD, hlt]
          have := hrun cs (i.toNat * k'.w) w' _ hdrop
          simp only [execOp, ho, hv, hk, Instr.index, asIntOf, Sem.run_bind, Sem.run_pure, Result.andThen_ok, run_under ht, h0, h1, and_self, if_true, run_size hin, hiz, this]
        · cases hev
      · cases hev
    · cases hev
  · cases hev
theorem toL_cvs (q : SK) (l : List q.den) : cvs q.ek (q.toL l) = l.map q.cv := by
  cases q <;> (induction l with
    | nil => rfl
    | cons x r ih => simp only [SK.toL, SK.ek] at ih ⊢; simp only [cvs, EK.cv, List.map_cons, ih]; rfl)
theorem toL_length (q : SK) (l : List q.den) : (q.toL l).length = l.length := by cases q <;> rfl
theorem ek_w (q : SK) : q.ek.w = 1 := by cases q <;> rfl
theorem sl_block (hi : Inv G m h w) {q : SK} (x : Sl q) : (x.cap = 0 ∧ x.dat = []) ∨ ∃ b blk t fr, x.a = some (at_ b 0) ∧ w.heap[b.1]? = some (.cells blk t fr) ∧ x.dat.length ≤ x.cap ∧ b.2 + x.cap ≤ blk.size ∧
    (∀ j, j < x.dat.length → blk[b.2 + j]? = (cvs q.ek (q.toL x.dat))[j]?) ∧ ¬ G.O b.1 ∧ b.1 < G.w0.heap.size := by
  rcases x.ok with ⟨_, h2, h3⟩ | hok
  · exact .inl ⟨h2, h3⟩
  · rcases hi.fz _ _ _ hok with ⟨h1, h2⟩ | ⟨b, blk, t, fr, h1, h2, h3, h4, h5, h6⟩
    · exact .inl ⟨h1, by simpa using h2⟩
    · have hlt := (Array.getElem?_eq_some_iff.1 h2).1
      refine .inr ⟨b, blk, t, fr, h1, by rw [hi.frame _ hlt h6]; exact h2, by simpa using h3, h4, fun j hj => ?_, h6, hlt⟩
      rw [toL_cvs]
      exact h5 j (by simpa using hj)
theorem sl_read (hi : Inv G m h w) {q : SK} (x : Sl q) : ∀ w', Ext w w' → (q.toL x.dat).length ≠ 0 → ∃ p, x.a = some p ∧ ∀ j u, (cvs q.ek (q.toL x.dat))[j]? = some u → w'.cell? (p.add j) = some u := by
  intro w' e hne
  rw [toL_length] at hne
  rcases sl_block hi x with ⟨_, h2⟩ | ⟨b, blk, t, fr, h1, h2, h3, h4, h5, _⟩
  · rw [h2] at hne; exact absurd rfl hne
  · refine ⟨_, h1, fun j u hu => ?_⟩
    rw [add_at]
    have hj : j < x.dat.length := by
      have := (List.getElem?_eq_some_iff.1 hu).1
      rw [cvs_length, toL_length, ek_w] at this
      omega
    have h6 := h5 j hj
    rw [hu] at h6
    simp only [World.cell?, at_, e.get h2]
    simpa using h6
theorem visK_run (hi : Inv G m h w) {k : EK} {x : LV} {v : Value} {l : List k.den} (hx : LRel m x v) (hv : visK k h x = some l) :
    (∀ w', (Builtin.lenOf v).run P w' = .ok l.length w') ∧
    (∀ w', Ext w w' → ∀ n, n ≤ l.length → (Builtin.firstCells k.w n v).run P w' = .ok (cvs k (l.take n)).toArray w') ∧
    (∀ A L C, v = .slice A L C → L = l.length ∧ (∀ w', Ext w w' → l.length ≠ 0 → ∃ p, A = some p ∧ ∀ j u, (cvs k l)[j]? = some u → w'.cell? (p.add j) = some u)) := by
  have key : ∀ {k' : EK} {l' : List k'.den}, vis h x = some ⟨k', l'⟩ → ∃ A C, v = .slice A l'.length C ∧ (∀ w', Ext w w' → l'.length ≠ 0 → ∃ p, A = some p ∧ ∀ j u, (cvs k' l')[j]? = some u → w'.cell? (p.add j) = some u) := by
    intro k' l' hvis
    have full : ∀ id ob, x = .full id → hget h id = some ob → ∀ n, ob.es = [.seq k' n l'] → ∃ A C, v = .slice A l'.length C ∧ (∀ w', Ext w w' → l'.length ≠ 0 → ∃ p, A = some p ∧ ∀ j u, (cvs k' l')[j]? = some u → w'.cell? (p.add j) = some u) := by
      intro id ob hxe hob n hes
      subst hxe
      obtain ⟨g, hg, g2, A, C, hg2, rfl, hle, _, hln, hb⟩ := hx
      rw [hg] at hg2
      cases hg2
      obtain ⟨hsg, cs, hoc, hpl⟩ := hi.obs id ob g hob hg
      rw [hes] at hsg hoc
      have hlen := (hsg 0 k' n l' [] (drop0 _)).1
      refine ⟨A, C, by rw [hlen], fun w' e hne => ?_⟩
      rcases hb with hb | ⟨b, hb, hA, hsz⟩
      · omega
      · refine ⟨_, hA, fun j u hu => ?_⟩
        obtain ⟨c1, c2, rfl, ⟨_, rfl⟩, rfl⟩ := hoc
        rw [add_at]
        have := (hpl.ext e).read hb j u (by rw [List.append_nil]; exact hu)
        simpa using this
    unfold vis at hvis
    split at hvis
    · rename_i id
      split at hvis
      · rename_i ob hob
        split at hvis
        · rename_i k2 n l2 hes
          simp only [Option.some.injEq, Sigma.mk.injEq] at hvis
          obtain ⟨rfl, hl⟩ := hvis
          have hl := eq_of_heq hl
          subst hl
          exact full id ob rfl hob n hes
        · cases hvis
      · cases hvis
    · rename_i id off lo len cap
      split at hvis
      · rename_i ob hob
        split at hvis
        · rename_i k2 n l2 r2 hes
          simp only [Option.some.injEq, Sigma.mk.injEq] at hvis
          obtain ⟨rfl, hl⟩ := hvis
          have hl := eq_of_heq hl
          subst hl
          obtain ⟨g, A, C, hg, rfl, hle, hcap, hln, hb⟩ := hx
          obtain ⟨hsg, cs, hoc, hpl⟩ := hi.obs id ob g hob hg
          obtain ⟨hlen, hew⟩ := hsg off k2 n l2 r2 hes
          have hcl : len ≤ cap.getD len ∨ cap.getD len = cap.getD len := .inr rfl
          have hll : ((l2.drop lo).take len).length = len := by
            rw [List.length_take, List.length_drop]
            cases cap with
            | none => simp only [Option.getD_none] at hln; omega
            | some c => have := hcap c rfl; simp only [Option.getD_some] at hln; omega
          refine ⟨A, C, by rw [hll], fun w' e hne => ?_⟩
          rw [hll] at hne
          rcases hb with hb | ⟨b, hb, hA, hsz⟩
          · omega
          · refine ⟨_, hA, fun j u hu => ?_⟩
            obtain ⟨_, hd⟩ := dropW_cells hes hoc
            obtain ⟨c1, c2, hcs, ⟨_, rfl⟩, _⟩ := hd
            rw [add_at]
            rw [cvs_take, cvs_drop] at hu
            rw [List.getElem?_take] at hu
            split at hu
            · rw [List.getElem?_drop] at hu
              have h3 : cs[off + (lo * k2.w + j)]? = some u := by
                rw [← List.getElem?_drop, hcs, List.getElem?_append_left (List.getElem?_eq_some_iff.1 hu).1]
                exact hu
              have := (hpl.ext e).read hb _ u h3
              rw [← hew]
              rw [show off + lo * k2.w + j = off + (lo * k2.w + j) by omega]
              exact this
            · cases hu
        · cases hvis
      · cases hvis
    · cases hvis
  have fin : ∀ {k' : EK} {l' : List k'.den} {A : Option Addr} {C : Nat}, (∀ w', Ext w w' → l'.length ≠ 0 → ∃ p, A = some p ∧ ∀ j u, (cvs k' l')[j]? = some u → w'.cell? (p.add j) = some u) →
      (∀ w', (Builtin.lenOf (.slice A l'.length C)).run P w' = .ok l'.length w') ∧
      (∀ w', Ext w w' → ∀ n, n ≤ l'.length → (Builtin.firstCells k'.w n (.slice A l'.length C)).run P w' = .ok (cvs k' (l'.take n)).toArray w') ∧
      (∀ A1 L C1, Value.slice A l'.length C = .slice A1 L C1 → L = l'.length ∧ (∀ w', Ext w w' → l'.length ≠ 0 → ∃ p, A1 = some p ∧ ∀ j u, (cvs k' l')[j]? = some u → w'.cell? (p.add j) = some u)) := by
    intro k' l' A C hc
    refine ⟨fun w' => by simp [Builtin.lenOf], fun w' e n hn => ?_, fun A' L C' hq => ?_⟩
    · by_cases hz : l'.length = 0
      · have : l' = [] := List.eq_nil_of_length_eq_zero hz
        subst this
        have hn0 : n = 0 := by simpa using hn
        subst hn0
        cases A with
        | none => simp [Builtin.firstCells, cvs]
        | some p =>
          have := run_loadCells_list (P := P) (w := w') p [] (fun j u hu => by cases hu)
          simpa [Builtin.firstCells, cvs] using this
      · obtain ⟨p, rfl, hp⟩ := hc w' e hz
        have := run_loadCells_list (P := P) (w := w') p (cvs k' (l'.take n)) (fun j u hu => by
          rw [cvs_take, List.getElem?_take] at hu
          split at hu
          · exact hp j u hu
          · cases hu)
        rw [cvs_length, List.length_take, Nat.min_eq_left hn] at this
        simpa [Builtin.firstCells] using this
    · cases hq
      exact ⟨rfl, hc⟩
  unfold visK at hv
  split at hv
  · simp only [Option.some.injEq] at hv
    subst hv
    have hx' : v = .slice none 0 0 := hx
    subst hx'
    refine ⟨fun w' => by simp [Builtin.lenOf], fun w' _ n hn => ?_, fun A L C hq => ?_⟩
    · simp [Builtin.firstCells, cvs]
    · cases hq
      exact ⟨rfl, fun _ _ h => absurd rfl h⟩
  · rename_i s
    split at hv
    · rename_i hk
      subst hk
      simp only [Option.some.injEq, cast_refl] at hv
      subst hv
      have hx' : v = .string s := hx
      subst hx'
      have hsz : (toInts s).length = s.size := by simp [toInts]
      refine ⟨fun w' => by simp [Builtin.lenOf, hsz], fun w' _ n hn => ?_, fun A L C hq => by cases hq⟩
      simp only [Builtin.firstCells, Sem.run_pure, Result.ok.injEq, and_true]
      have hc : ∀ l : List UInt8, cvs (.int .u8) (l.map fun c => (c.toNat : Int)) = l.map fun c => Value.int .u8 (c.toNat : Int) := by
        intro l
        induction l with
        | nil => rfl
        | cons c l ih => simp only [List.map_cons, cvs, EK.cv, ih]; rfl
      have hext : (s.extract 0 n).data = s.data.extract 0 n := by simp
      rw [hext, toInts, ← List.map_take, hc]
      apply Array.ext'
      simp [List.extract_eq_take_drop]
    · cases hv
  · rename_i q x
    split at hv
    · rename_i hk
      subst hk
      simp only [Option.some.injEq, cast_refl] at hv
      subst hv
      have hv' : v = .slice x.a (q.toL x.dat).length x.cap := by rw [toL_length]; exact hx
      subst hv'
      exact fin (sl_read hi x)
    · cases hv
  · split at hv
    · rename_i k' l' hvis
      split at hv
      · rename_i hk
        subst hk
        simp only [Option.some.injEq, cast_refl] at hv
        subst hv
        obtain ⟨A, C, rfl, hc⟩ := key hvis
        exact fin hc
      · cases hv
    · cases hv
end
end
section
variable [FZ]
variable {P : Program}
theorem foldl_push (ns : List Int) : ∀ s : ByteArray, ns.foldl (fun r n => r.push (UInt8.ofNat n.toNat)) s = ⟨s.data ++ (ns.map fun n => UInt8.ofNat n.toNat).toArray⟩ := by
  induction ns with
  | nil => intro s; simp
  | cons n ns ih =>
    intro s
    rw [List.foldl_cons, ih]
    congr 1
    simp [ByteArray.push]
theorem ofInts_fold (ns : List Int) : ns.foldl (fun r n => r.push (UInt8.ofNat n.toNat)) ByteArray.empty = ofInts ns := by
  rw [foldl_push]
  simp [ofInts, ByteArray.empty, ByteArray.emptyWithCapacity]
  rfl
theorem setAll_list (vs : List Value) : ∀ (off k : Nat) (cs : Array Value), off + k + vs.length ≤ cs.size →
    ((vs.zipIdx k).foldl (fun cs (p : Value × Nat) => cs.setIfInBounds (off + p.2) p.1) cs).toList = cs.toList.take (off + k) ++ (vs ++ cs.toList.drop (off + k + vs.length)) := by
  induction vs with
  | nil => intro off k cs h; simp
  | cons v vs ih =>
    intro off k cs h
    simp only [List.zipIdx_cons, List.foldl_cons]
    simp only [List.length_cons] at h
    rw [ih off (k + 1) _ (by simp; omega)]
    simp only [Array.toList_setIfInBounds, List.length_cons]
    rw [List.take_set, List.drop_set_of_lt (by omega)]
    have h1 : off + k < cs.toList.length := by simp; omega
    rw [show off + (k + 1) = off + k + 1 by omega, List.take_succ_eq_append_getElem h1, List.set_append_right _ _ (by simp; omega)]
    have : (cs.toList.take (off + k)).length = off + k := by rw [List.length_take]; omega
    rw [this, Nat.sub_self]
    simp only [List.set_cons_zero, List.append_assoc, List.cons_append, List.nil_append]
    congr 3
    congr 1; omega
theorem fill_step {v : Value} {off : Nat} {cs : Array Value} (h : off + v.cells.size ≤ cs.size) :
    (v.cells.zipIdx.foldl (fun cs (p : Value × Nat) => cs.setIfInBounds (off + p.2) p.1) cs).toList = cs.toList.take off ++ (v.cells.toList ++ cs.toList.drop (off + v.cells.toList.length)) := by
  have := setAll_list v.cells.toList off 0 cs (by simpa using h)
  rw [← Array.foldl_toList]
  simpa using this
section
variable {G : Ctx} {m : GM} {h : Heap} {w : World} {a : Act} {env : Env} {o : Oper} {K : AV → Option Res} {r : Res}
def Parts (m : GM) (ev : Operand → Value) : List (Nat × Operand) → List (Nat × TV) → Prop
  | [], [] => True
  | (i, x) :: r, (j, v) :: s => i = j ∧ TVRel m v (ev x) ∧ Parts m ev r s
  | _, _ => False
theorem partsOf_rel (he : ERel G m env a) {ty : Nat → TypeId} : ∀ {l : List (Nat × Operand)} {ps : List (Nat × TV)}, partsOf P env ty l = some ps → Parts m a.eval l ps
  | [], ps, h => by simp only [partsOf, Option.some.injEq] at h; subst h; trivial
  | (i, x) :: r, ps, h => by
    simp only [partsOf] at h
    split at h
    · rename_i v hv
      split at h
      · rename_i l hl
        simp only [Option.some.injEq] at h
        subst h
        exact ⟨rfl, opd_rel he hv, partsOf_rel he hl⟩
      · cases h
    · cases h
theorem fill_struct {place : Nat → Option (Nat × Nat)} {cplace : Nat → Option (Nat × Nat)} (hp : ∀ i q, place i = some q → cplace i = some q) {ev : Operand → Value} :
    ∀ (l : List (Nat × Operand)) (ps : List (Nat × TV)) (es es' : List LV) (cs : Array Value), Parts m ev l ps → putParts place es ps = some es' → OCells m es cs.toList →
      ∃ cs', Instr.fill cplace cs (l.map fun p => (p.1, ev p.2)) = some cs' ∧ OCells m es' cs'.toList
  | [], [], es, es', cs, _, h, ho => by
    simp only [putParts, Option.some.injEq] at h
    subst h
    exact ⟨cs, rfl, ho⟩
  | (i, x) :: l, (j, v) :: ps, es, es', cs, hpt, h, ho => by
    obtain ⟨rfl, hv, hpt⟩ := hpt
    simp only [putParts] at h
    split at h
    · rename_i off n hpl
      split at h
      · rename_i hw
        split at h
        · rename_i es1 hput
          have hn := wOf_cells hw hv.ents
          obtain ⟨h1, h2⟩ := putW_cells hput ho hv.ents
          have hsz : (ev x).cells.size = n := by simpa using hn
          have hle : off + (ev x).cells.size ≤ cs.size := by simpa using h1
          have hf := fill_step hle
          obtain ⟨cs', h3, h4⟩ := fill_struct hp l ps es1 es' ((ev x).cells.zipIdx.foldl (fun cs (p : Value × Nat) => cs.setIfInBounds (off + p.2) p.1) cs) hpt h (by rw [hf]; exact h2)
          refine ⟨cs', ?_, h4⟩
          simp only [List.map_cons, Instr.fill, hp i _ hpl]
          rw [if_neg (by simp [hsz]; omega)]
          exact h3
        · cases h
      · cases h
    · cases h
  | [], _ :: _, _, _, _, hpt, _, _ => hpt.elim
  | _ :: _, [], _, _, _, hpt, _, _ => hpt.elim
theorem cvs_set (k : EK) (l : List k.den) (i : Nat) (x : k.den) (hi : i < l.length) :
    cvs k (l.set i x) = (cvs k l).take (i * k.w) ++ (k.cv x ++ (cvs k l).drop (i * k.w + (k.cv x).length)) := by
  rw [List.set_eq_take_append_cons_drop, if_pos hi, cvs_append, cvs_take]
  congr 1
  simp only [cvs]
  congr 1
  rw [cvs_drop, cv_length, Nat.add_mul, Nat.one_mul]
theorem fill_elems {k : EK} {sz : Nat} (hsz : sz = k.w) {ev : Operand → Value} :
    ∀ (l : List (Nat × Operand)) (ps : List (Nat × TV)) (xs ys : List k.den) (cs : Array Value), Parts m ev l ps → putElems k xs ps = some ys → cs.toList = cvs k xs →
      ∃ cs', Instr.fill (fun i => some (i * sz, sz)) cs (l.map fun p => (p.1, ev p.2)) = some cs' ∧ cs'.toList = cvs k ys ∧ ys.length = xs.length
  | [], [], xs, ys, cs, _, h, ho => by
    simp only [putElems, Option.some.injEq] at h
    subst h
    exact ⟨cs, rfl, ho, rfl⟩
  | (i, x) :: l, (j, v) :: ps, xs, ys, cs, hpt, h, ho => by
    obtain ⟨rfl, hv, hpt⟩ := hpt
    simp only [putElems] at h
    split at h
    · rename_i y hy
      split at h
      · rename_i hlt
        have hc := of1_cells k hy hv.ents
        have hsv : (ev x).cells.size = k.w := by
          have := congrArg List.length hc
          rw [cv_length] at this
          simpa using this
        have hcs : cs.size = xs.length * k.w := by
          have := congrArg List.length ho
          rw [cvs_length] at this
          simpa using this
        have hle : i * sz + (ev x).cells.size ≤ cs.size := by
          have : (i + 1) * k.w ≤ xs.length * k.w := Nat.mul_le_mul_right _ hlt
          rw [Nat.add_mul] at this
          rw [hsv, hcs, hsz]; omega
        have hf := fill_step hle
        obtain ⟨cs', h3, h4, h5⟩ := fill_elems hsz l ps (xs.set i y) ys ((ev x).cells.zipIdx.foldl (fun cs (p : Value × Nat) => cs.setIfInBounds (i * sz + p.2) p.1) cs) hpt h (by
          rw [hf, cvs_set k xs i y hlt, ho, hc, hsz])
        refine ⟨cs', ?_, h4, by simpa using h5⟩
        simp only [List.map_cons, Instr.fill]
        rw [if_neg (by simp [hsv, hsz]; rw [hsv, hsz] at hle; exact hle)]
        exact h3
      · cases h
    · cases h
  | [], _ :: _, _, _, _, hpt, _, _ => hpt.elim
  | _ :: _, [], _, _, _, hpt, _, _ => hpt.elim
theorem zero_run {t : TypeId} {i : TypeInfo} {v : Value} (hi : P.info? t = some i) (hz : i.zero = some v) (w : World) : (zeroValue t).run P w = .ok v w := by
  simp [zeroValue, typeInfo, hi, hz]
theorem mapM_places (w : World) : ∀ (fs : List Field), (∀ fd ∈ fs, ∃ i, P.info? fd.type = some i) →
    ((fs.mapM fun f => do pure (f.offset, ← sizeOf f.type) : Sem (List (Nat × Nat)))).run P w = .ok (fs.map fun f => (f.offset, szOf P f.type)) w
  | [], _ => by simp
  | f :: fs, hf => by
    obtain ⟨i, hi⟩ := hf f (List.mem_cons_self ..)
    have ih := mapM_places w fs (fun fd h => hf fd (List.mem_cons_of_mem _ h))
    have hsz : szOf P f.type = i.size := by simp [szOf, hi]
    simp only [List.mapM_cons, Sem.run_bind, run_size hi, Result.andThen_ok, Sem.run_pure, ih, hsz, List.map_cons]
theorem pure_build (he : ERel G m env a) {t : TypeId} {parts : Array (Nat × Operand)} (ho : o.op = .build t parts) (hev : evPure P o env h K = some r) : PureOK P m w a o K r := by
  simp only [evPure, ho] at hev
  split at hev
  · rename_i fs ht
    split at hev
    · cases hev
    rename_i hall
    have hin : ∀ fd ∈ fs.toList, ∃ i, P.info? fd.type = some i := by
      intro fd hfd
      have h1 : (fs.toList.all fun fd => (P.info? fd.type).isSome) = true := by
        cases hq : (fs.toList.all fun fd => (P.info? fd.type).isSome) with
        | true => rfl
        | false => exact absurd (by rw [hq]; rfl) hall
      have := List.all_eq_true.1 h1 fd hfd
      exact Option.isSome_iff_exists.1 this
    split at hev
    · rename_i es ps hz hps
      split at hev
      · rename_i es' hput
        obtain ⟨i, z, hi, hzz, hoc⟩ := zeroE_cells (m := m) hz
        have hpt := partsOf_rel he hps
        obtain ⟨cs', hf, hoc'⟩ := fill_struct (cplace := fun i => (fs.toList.map fun f => (f.offset, szOf P f.type))[i]?) (by
          intro i q hq
          simp only [Array.getElem?_toList, List.getElem?_map]
          split at hq
          · rename_i fd hfd
            simp only [Option.some.injEq] at hq
            simp [hfd, hq]
          · cases hq) parts.toList ps es es' z.cells hpt hput hoc
        refine ⟨_, .agg cs', hev, ⟨cs', rfl, hoc'⟩, fun w' _ => ?_⟩
        have hmp := mapM_places (P := P) w' fs.toList hin
        have hmp' : ((fs.mapM fun f => do pure (f.offset, ← sizeOf f.type) : Sem (Array (Nat × Nat)))).run P w' = .ok (fs.toList.map fun f => (f.offset, szOf P f.type)).toArray w' := by
          rw [Array.mapM_eq_mapM_toList]
          rw [Sem.run_map, hmp]
          rfl
        have hparts : (parts.map fun (x : Nat × Operand) => (x.1, a.eval x.2)).toList = parts.toList.map fun p => (p.1, a.eval p.2) := by simp
        simp only [execOp, ho, Instr.build, Sem.run_bind, zero_run hi hzz, Result.andThen_ok, run_under ht, hmp', hparts, List.getElem?_toArray, hf, Sem.run_pure]
      · cases hev
    · cases hev
  · rename_i n e ht
    split at hev
    · rename_i k n' l ps hz hps
      split at hev
      · cases hev
      · rename_i hsz
        split at hev
        · rename_i l' hput
          obtain ⟨i, z, hi, hzz, hoc⟩ := zeroE_cells (m := m) hz
          have hpt := partsOf_rel he hps
          obtain ⟨c1, c2, hc, ⟨hl, rfl⟩, rfl⟩ := hoc
          rw [List.append_nil] at hc
          have hsz' : szOf P e = k.w := by simpa using hsz
          obtain ⟨ie, hie, hiz⟩ := szOf_info hsz' k.w_pos
          obtain ⟨cs', hf, hc', hlen⟩ := fill_elems (k := k) (sz := ie.size) hiz parts.toList ps l l' z.cells hpt hput hc
          refine ⟨_, .agg cs', hev, ⟨cs', rfl, cvs k l', [], by rw [hc', List.append_nil], ⟨by rw [hlen]; exact hl, rfl⟩, rfl⟩, fun w' _ => ?_⟩
          have hparts : (parts.map fun (x : Nat × Operand) => (x.1, a.eval x.2)).toList = parts.toList.map fun p => (p.1, a.eval p.2) := by simp
          simp only [execOp, ho, Instr.build, Sem.run_bind, zero_run hi hzz, Result.andThen_ok, run_under ht, run_size hie, hparts, hf, Sem.run_pure]
        · cases hev
    · cases hev
  · cases hev
theorem pure_convert (hi : Inv G m h w) (he : ERel G m env a) {src dst : TypeId} {x : Operand} (ho : o.op = .convert src dst x) (hev : evPure P o env h K = some r) : PureOK P m w a o K r := by
  simp only [evPure, ho] at hev
  split at hev
  · rename_i d k q n hs hd hx
    have hv : a.eval x = .int q n := opd_rel he hx
    exact ⟨_, _, hev, rfl, fun w' _ => by simp [execOp, ho, hv, convert, run_under hs, run_under hd, Conv.intToInt]⟩
  · rename_i d s hs hd hx
    have hv : a.eval x = .string s := opd_rel he hx
    exact ⟨_, _, hev, rfl, fun w' _ => by simp [execOp, ho, hv, convert, run_under hs, run_under hd]⟩
  · rename_i d k q n hs hd hx
    have hv : a.eval x = .int q n := opd_rel he hx
    exact ⟨_, _, hev, rfl, fun w' _ => by simp [execOp, ho, hv, convert, run_under hs, run_under hd, Conv.intToFloat]⟩
  · rename_i e x' hne hs hd hx
    have hv := opd_rel he hx
    split at hev
    · rename_i l hu hsz hvis
      obtain ⟨hlen, hfst, hsl⟩ := visK_run (P := P) hi hv hvis
      have hshape : ∃ A L C, a.eval x = .slice A L C := by
        unfold visK at hvis
        split at hvis
        · exact ⟨none, 0, 0, hv⟩
        · rename_i s; exact (hne s rfl).elim
        · exact ⟨_, _, _, hv⟩
        · split at hvis
          · rename_i k' l' hvv
            unfold vis at hvv
            split at hvv
            · obtain ⟨_, _, _, A, C, _, hq, _⟩ := hv; exact ⟨_, _, _, hq⟩
            · obtain ⟨_, A, C, _, hq, _⟩ := hv; exact ⟨_, _, _, hq⟩
            · cases hvv
          · cases hvis
      obtain ⟨A, L, C, hval⟩ := hshape
      obtain ⟨rfl, hrd⟩ := hsl A L C hval
      refine ⟨_, .string (ofInts l), hev, rfl, fun w' e => ?_⟩
      have e := e.resolve_left (by rw [ho]; simp [isFree, hd])
      have hcv : ∀ l : List Int, cvs (.int .u8) l = l.map (Value.int .u8) := by
        intro l
        induction l with
        | nil => rfl
        | cons c l ih => simp only [List.map_cons, cvs, EK.cv, ih]; rfl
      have hb : (Conv.bytesToString (.slice A l.length C)).run P w' = .ok (.string (ofInts l)) w' := by
        cases A with
        | none =>
          have : l.length = 0 := Classical.byContradiction fun hne => by
            obtain ⟨p, hp, _⟩ := hrd w' e hne
            cases hp
          have hl0 : l = [] := List.eq_nil_of_length_eq_zero this
          subst hl0
          simp [Conv.bytesToString]
          rfl
        | some p =>
          have hld : (loadCells p l.length).run P w' = .ok (l.map (Value.int .u8)).toArray w' := by
            have := run_loadCells_list (P := P) (w := w') p (cvs (.int .u8) l) (fun j u hu => by
              have hne : l.length ≠ 0 := by
                intro hz
                have : l = [] := List.eq_nil_of_length_eq_zero hz
                subst this
                cases hu
              obtain ⟨p', hp', hc⟩ := hrd w' e hne
              cases hp'
              exact hc j u hu)
            rw [cvs_length] at this
            simp only [EK.w, Nat.mul_one] at this
            rw [this, hcv]
          rw [run_bytesToString w' p l.length C l hld, ofInts_fold]
      simp only [execOp, ho, hval, Sem.run_bind, run_convert_bytes_string w' src dst _ A l.length C hs hu hd, hb, Result.andThen_ok, Sem.run_pure]
    · cases hev
  · cases hev
def ArgsR (m : GM) (ev : Operand → Value) : List Operand → List TV → Prop
  | [], [] => True
  | x :: r, v :: s => TVRel m v (ev x) ∧ ArgsR m ev r s
  | _, _ => False
theorem argVals_rel (he : ERel G m env a) : ∀ {l : List Operand} {ts : List TypeId} {vs : List TV}, argVals P env l ts = some vs → ArgsR m a.eval l vs
  | [], ts, vs, h => by simp only [argVals, Option.some.injEq] at h; subst h; trivial
  | x :: r, ts, vs, h => by
    simp only [argVals] at h
    split at h
    · rename_i v hv
      split at h
      · rename_i l hl
        simp only [Option.some.injEq] at h
        subst h
        exact ⟨opd_rel he hv, argVals_rel he hl⟩
      · cases h
    · cases h
theorem ArgsR.one {l : List Operand} {v : TV} (h : ArgsR m a.eval l [v]) : ∃ x, l = [x] ∧ TVRel m v (a.eval x) := by
  match l, h with
  | [x], h => exact ⟨x, rfl, h.1⟩
theorem ArgsR.two {l : List Operand} {v u : TV} (h : ArgsR m a.eval l [v, u]) : ∃ x y, l = [x, y] ∧ TVRel m v (a.eval x) ∧ TVRel m u (a.eval y) := by
  match l, h with
  | [x, y], h => exact ⟨x, y, rfl, h.1, h.2.1⟩
theorem ArgsR.vals {l : List Operand} : ∀ {vs : List TV}, ArgsR m a.eval l vs → TVs m vs (l.map a.eval) := by
  induction l with
  | nil => intro vs h; cases vs <;> exact h
  | cons x r ih =>
    intro vs h
    cases vs with
    | nil => exact h.elim
    | cons v s => exact ⟨h.1, ih h.2⟩
theorem run_builtin (c : Call) {b : Builtin} (hc : c.callee = .builtin b) (ho : o.op = .call c) : ∃ consts, ∀ w' : World,
    (execOp a.eval o).run P w' = (builtin b c.argTypes o.type consts (c.args.map a.eval)).run P w' :=
  ⟨_, fun w' => by simp only [execOp, ho, resolve, hc, Sem.run_bind, Sem.run_pure, Result.andThen_ok, invoke]; rfl⟩
theorem arg0_of {c : Call} {d : TypeDesc} (h : arg0T P c = some d) : ∃ t, c.argTypes[0]? = some t ∧ P.underlying t = some d := by
  unfold arg0T at h
  split at h
  · rename_i t ht; exact ⟨t, ht, h⟩
  · cases h
theorem args1 {c : Call} {x : Operand} (h : c.args.toList = [x]) : c.args.map a.eval = #[a.eval x] := by
  apply Array.ext'
  simp [h]
theorem args2 {c : Call} {x y : Operand} (h : c.args.toList = [x, y]) : c.args.map a.eval = #[a.eval x, a.eval y] := by
  apply Array.ext'
  simp [h]
theorem pure_call (hi : Inv G m h w) (he : ERel G m env a) {c : Call} (ho : o.op = .call c) (hev : evPure P o env h K = some r) : PureOK P m w a o K r := by
  simp only [evPure, ho] at hev
  split at hev
  · rename_i hc
    obtain ⟨consts, hrun⟩ := run_builtin (P := P) (a := a) c hc ho
    split at hev
    · rename_i s hargs ht
      obtain ⟨x, hl, hx⟩ := (argVals_rel he hargs).one
      have hv : a.eval x = .string s := hx
      obtain ⟨t, ht0, htu⟩ := arg0_of ht
      refine ⟨_, _, hev, rfl, fun w' _ => ?_⟩
      rw [hrun, args1 hl, hv]
      simp [builtin, Builtin.len_, ht0, run_under htu, goInt]
    · rename_i q e hargs ht
      obtain ⟨x, hl, hx⟩ := (argVals_rel he hargs).one
      have hv : a.eval x = .slice none 0 0 := hx
      obtain ⟨t, ht0, htu⟩ := arg0_of ht
      refine ⟨_, _, hev, rfl, fun w' _ => ?_⟩
      rw [hrun, args1 hl, hv]
      simp [builtin, Builtin.len_, ht0, run_under htu, goInt]
    · rename_i q x' e hargs ht
      obtain ⟨x, hl, hx⟩ := (argVals_rel he hargs).one
      have hv : a.eval x = .slice x'.a x'.dat.length x'.cap := hx
      obtain ⟨t, ht0, htu⟩ := arg0_of ht
      refine ⟨_, _, hev, rfl, fun w' _ => ?_⟩
      rw [hrun, args1 hl, hv]
      simp [builtin, Builtin.len_, ht0, run_under htu, goInt]
    · rename_i x' e hne1 hne2 hne3 hargs ht
      split at hev
      · rename_i id off lo len cap hsf
        obtain ⟨x, hl, hx⟩ := (argVals_rel he hargs).one
        obtain ⟨g, A, C, _, hv, _⟩ := sliceForm_rel hi hsf hx
        obtain ⟨t, ht0, htu⟩ := arg0_of ht
        refine ⟨_, _, hev, rfl, fun w' _ => ?_⟩
        rw [hrun, args1 hl, hv]
        simp [builtin, Builtin.len_, ht0, run_under htu, goInt]
      · cases hev
    · cases hev
  · rename_i hc
    obtain ⟨consts, hrun⟩ := run_builtin (P := P) (a := a) c hc ho
    split at hev
    · rename_i k x' k' y' hargs
      obtain ⟨x, y, hl, hx, hy⟩ := (argVals_rel he hargs).two
      have hv : a.eval x = .int k x' := hx
      have hv' : a.eval y = .int k' y' := hy
      refine ⟨_, _, hev, rfl, fun w' _ => ?_⟩
      rw [hrun, args2 hl, hv, hv']
      simp [builtin, Builtin.min_, Builtin.min2]
    · cases hev
  · rename_i hc
    obtain ⟨consts, hrun⟩ := run_builtin (P := P) (a := a) c hc ho
    split at hev
    · rename_i k x' k' y' hargs
      obtain ⟨x, y, hl, hx, hy⟩ := (argVals_rel he hargs).two
      have hv : a.eval x = .int k x' := hx
      have hv' : a.eval y = .int k' y' := hy
      refine ⟨_, _, hev, rfl, fun w' _ => ?_⟩
      rw [hrun, args2 hl, hv, hv']
      simp [builtin, Builtin.max_, Builtin.max2]
    · cases hev
  · cases hev
theorem eqIn_slnil {d : Nat} {t el : TypeId} {A : Option Addr} {n c : Nat} {w : World} (hu : P.underlying t = some (.slice el)) : (Op.equalIn (d + 1) t (.slice A n c) (.slice none 0 0)).run P w = .ok A.isNone w := by
  cases A <;> simp [Op.equalIn, run_under hu]
theorem nilTest_rel (hi : Inv G m h w) {t : TypeId} {x y : AV} {n : Nat} (hn : nilTest P h t x y = some n) {vx vy : Value} (hx : AVRel m x vx) (hy : AVRel m y vy) :
    ∃ b, (0 < n → b = false) ∧ ∀ w', (∀ op p q, (eqGuard op t p q vx vy).run P w' = .ok () w') ∧ (binOp .eql t vx vy).run P w' = .ok (.bool b) w' ∧ (binOp .neq t vx vy).run P w' = .ok (.bool (!b)) w' := by
  have key : ∀ {id off lo len : Nat} {cap : Option Nat} {el : TypeId}, P.underlying t = some (.slice el) → SlRel m id off lo len cap vx → vy = .slice none 0 0 →
      ∃ b, (0 < len → b = false) ∧ ∀ w', (∀ op p q, (eqGuard op t p q vx vy).run P w' = .ok () w') ∧ (binOp .eql t vx vy).run P w' = .ok (.bool b) w' ∧ (binOp .neq t vx vy).run P w' = .ok (.bool (!b)) w' := by
    rintro id off lo len cap el hu ⟨g, A, C, hg, rfl, hle, hcap, hlen, hA⟩ rfl
    refine ⟨A.isNone, fun h0 => ?_, fun w' => ⟨fun op p q => guard_slice, eq_of (P := P) (w := w') (e := A.isNone) (eqIn_slnil (d := 9999) hu) rfl rfl⟩⟩
    · rcases hA with hA | ⟨b, _, rfl, _⟩
      · omega
      · rfl
  unfold nilTest at hn
  split at hn
  · split at hn
    · rename_i hu hs
      simp only [Option.some.injEq] at hn
      subst hn
      exact key hu (sliceForm_rel hi hs hx) hy
    · cases hn
  · split at hn
    · rename_i hu
      simp only [Option.some.injEq] at hn
      subst hn
      exact key hu hx hy
    · cases hn
  · cases hn
theorem pure_binOp (hi : Inv G m h w) (he : ERel G m env a) {op : BinOp} {xt yt : TypeId} {x y : Operand} (ho : o.op = .binOp op xt x y yt) (hev : evPure P o env h K = some r) : PureOK P m w a o K r := by
  simp only [evPure, ho] at hev
  split at hev
  · rename_i ax ay hx hy
    have hx' := opd_rel he hx
    have hy' := opd_rel he hy
    split at hev
    · rename_i e he'
      have hq := fun w => eqlV_run he' hx' hy' w
      split at hev
      · exact ⟨_, _, hev, rfl, fun w' _ => by simp [execOp, ho, (hq w').1, (hq w').2.1]⟩
      · exact ⟨_, _, hev, rfl, fun w' _ => by simp [execOp, ho, (hq w').1, (hq w').2.2]⟩
      · cases hev
    · split at hev
      · rename_i n hn
        obtain ⟨b, hb, hrun⟩ := nilTest_rel hi hn hx' hy'
        split at hev
        · have hk : K (.tv (.lf (.bool b))) = some r := by
            by_cases h0 : 0 < n
            · rw [hb h0]; simpa [h0] using hev
            · simp only [h0, decide_false, cond_false] at hev
              obtain ⟨h1, h2⟩ := amb_some hev
              cases b <;> assumption
          exact ⟨_, .bool b, hk, rfl, fun w' _ => by simp [execOp, ho, (hrun w').1, (hrun w').2.1]⟩
        · have hk : K (.tv (.lf (.bool (!b)))) = some r := by
            by_cases h0 : 0 < n
            · rw [hb h0]; simpa [h0] using hev
            · simp only [h0, decide_false, cond_false] at hev
              obtain ⟨h1, h2⟩ := amb_some hev
              cases b <;> assumption
          exact ⟨_, .bool (!b), hk, rfl, fun w' _ => by simp [execOp, ho, (hrun w').1, (hrun w').2.2]⟩
        · cases hev
      · obtain ⟨lv, v, h1, h2, h3⟩ := binOpV_run (P := P) hev hx' hy' xt
        exact ⟨_, v, h1, h2, fun w' _ => by simp [execOp, ho, (h3 w').1, (h3 w').2]⟩
  · cases hev
theorem pure_makeFunc (he : ERel G m env a) {fn : Fn} {first captured : Array Operand} (ho : o.op = .makeFunc fn first captured) (hev : evPure P o env h K = some r) : PureOK P m w a o K r := by
  cases fn with
  | func f =>
    simp only [evPure, ho] at hev
    split at hev
    · rename_i vs hf hvs
      split at hev
      · rename_i ids hids
        have hc := boxIds_rel hids (argVals_rel he hvs).vals
        refine ⟨_, .func (.func f) #[] (captured.map a.eval), hev, ⟨_, rfl, by simpa using hc⟩, fun w' _ => ?_⟩
        have hf' : first = #[] := by apply Array.ext'; simpa using hf
        simp [execOp, ho, Instr.makeFunc, hf']
      · cases hev
    · cases hev
  | _ => simp only [evPure, ho] at hev; cases hev
theorem evPure_sound (hi : Inv G m h w) (he : ERel G m env a) (hev : evPure P o env h K = some r) : PureOK P m w a o K r := by
  cases ho : o.op with
  | move x => exact pure_move he (.inl ho) hev
  | assign x => exact pure_move he (.inr ho) hev
  | pick c x y => exact pure_pick he ho hev
  | load t x => exact pure_load hi he ho hev
  | nilCheck x => exact pure_nilCheck he ho hev
  | binOp op xt x y yt => exact pure_binOp hi he ho hev
  | unOp op t x => exact pure_unOp he ho hev
  | convert src dst x => exact pure_convert hi he ho hev
  | slice t x lo hh mx => exact pure_slice hi he ho hev
  | fieldAddr s x f => exact pure_fieldAddr he ho hev
  | field s x f => exact pure_field he ho hev
  | indexAddr t x ix => exact pure_indexAddr hi he ho hev
  | index t x ix => exact pure_index he ho hev
  | extract x i => exact pure_extract he ho hev
  | build t ps => exact pure_build he ho hev
  | call c => exact pure_call hi he ho hev
  | makeFunc fn first captured => exact pure_makeFunc he ho hev
  | _ => simp only [evPure, ho] at hev; cases hev
end
end
end Go.Proofs.Ytjhpadklfeipaaa.Ev
end