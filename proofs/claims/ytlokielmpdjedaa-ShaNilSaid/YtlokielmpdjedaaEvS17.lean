/- The evaluator is sound, seventeenth part: shapes; summaries that are given by typed functions. -/
import Derived.Test.YtlokielmpdjedaaEvS16
namespace Go.Proofs.Ytlokielmpdjedaa.Ev
open Go
set_option linter.unusedVariables false

inductive SL where
  | top
  | int (k : IntKind)
  | bool
  | str
  | nilp
  | nils (k : Option EK)
  | ptr (id off : Nat)
  | pix (id off o2 : Nat)
  | full (id : Nat)
  | slice (id off : Nat)
  | sliceC (id off : Nat)
  | seq (k : EK) (n : Nat)
  | fn (f : Nat)

@[reducible] def SL.den : SL → Type
  | .int _ => Int
  | .bool => Bool
  | .str => ByteArray
  | .pix _ _ _ => Nat
  | .slice _ _ => Nat × Nat
  | .sliceC _ _ => Nat × Nat × Nat
  | .seq k _ => List k.den
  | _ => Unit

def SL.enc : (s : SL) → s.den → LV
  | .top, _ => .top
  | .int k, n => .int k n
  | .bool, b => .bool b
  | .str, s => .str s
  | .nilp, _ => .nilp
  | .nils k, _ => .nils k
  | .ptr id off, _ => .ptr id off
  | .pix id off o2, i => .pix id off i o2
  | .full id, _ => .full id
  | .slice id off, d => .slice id off d.1 d.2 none
  | .sliceC id off, d => .slice id off d.1 d.2.1 (some d.2.2)
  | .seq k n, l => .seq k n l
  | .fn f, _ => .fn f

def SL.dec : (s : SL) → LV → Option s.den
  | .top, x => match x with | .top => some () | _ => none
  | .int k, x => match x with | .int k' n => if k' = k then some n else none | _ => none
  | .bool, x => match x with | .bool b => some b | _ => none
  | .str, x => match x with | .str s => some s | _ => none
  | .nilp, x => match x with | .nilp => some () | _ => none
  | .nils k, x => match x with | .nils k' => if k' = k then some () else none | _ => none
  | .ptr id off, x => match x with | .ptr id' off' => if id' = id ∧ off' = off then some () else none | _ => none
  | .pix id off o2, x => match x with | .pix id' off' i o2' => if id' = id ∧ off' = off ∧ o2' = o2 then some i else none | _ => none
  | .full id, x => match x with | .full id' => if id' = id then some () else none | _ => none
  | .slice id off, x => match x with | .slice id' off' lo len none => if id' = id ∧ off' = off then some (lo, len) else none | _ => none
  | .sliceC id off, x => match x with | .slice id' off' lo len (some c) => if id' = id ∧ off' = off then some (lo, len, c) else none | _ => none
  | .seq k n, x => match x with | .seq k' n' l => if h : k' = k then (if n' = n then some (castL h l) else none) else none | _ => none
  | .fn f, x => match x with | .fn f' => if f' = f then some () else none | _ => none

theorem SL.dec_enc : ∀ (s : SL) (x : LV) (d : s.den), s.dec x = some d → x = s.enc d := by
  intro s x d h
  cases s <;> simp only [SL.dec] at h
  case top => split at h <;> first | rfl | cases h
  case int k =>
    split at h
    · rename_i k' n
      split at h
      · rename_i hk; subst hk; cases h; rfl
      · cases h
    · cases h
  case bool => split at h <;> first | (cases h; rfl) | cases h
  case str => split at h <;> first | (cases h; rfl) | cases h
  case nilp => split at h <;> first | rfl | cases h
  case nils k =>
    split at h
    · split at h
      · rename_i hk; subst hk; rfl
      · cases h
    · cases h
  case ptr id off =>
    split at h
    · split at h
      · rename_i hk; obtain ⟨rfl, rfl⟩ := hk; rfl
      · cases h
    · cases h
  case pix id off o2 =>
    split at h
    · split at h
      · rename_i hk; obtain ⟨rfl, rfl, rfl⟩ := hk; cases h; rfl
      · cases h
    · cases h
  case full id =>
    split at h
    · split at h
      · rename_i hk; subst hk; rfl
      · cases h
    · cases h
  case fn f =>
    split at h
    · split at h
      · rename_i hk; subst hk; rfl
      · cases h
    · cases h
  case slice id off =>
    split at h
    · split at h
      · rename_i hk; obtain ⟨rfl, rfl⟩ := hk; cases h; rfl
      · cases h
    · cases h
  case sliceC id off =>
    split at h
    · split at h
      · rename_i hk; obtain ⟨rfl, rfl⟩ := hk; cases h; rfl
      · cases h
    · cases h
  case seq k n =>
    split at h
    · split at h
      · rename_i hk
        subst hk
        split at h
        · rename_i hn; subst hn; cases h; rfl
        · cases h
      · cases h
    · cases h

@[reducible] def denL : List SL → Type
  | [] => Unit
  | s :: r => s.den × denL r

def encL : (l : List SL) → denL l → List LV
  | [], _ => []
  | s :: r, d => s.enc d.1 :: encL r d.2

def decL : (l : List SL) → List LV → Option (denL l)
  | [], x => match x with | [] => some () | _ => none
  | s :: r, x => match x with
    | y :: q => match s.dec y, decL r q with
      | some a, some b => some (a, b)
      | _, _ => none
    | [] => none

theorem decL_enc : ∀ (l : List SL) (x : List LV) (d : denL l), decL l x = some d → x = encL l d
  | [], x, d, h => by
    simp only [decL] at h
    split at h
    · rfl
    · cases h
  | s :: r, x, d, h => by
    simp only [decL] at h
    split at h
    · split at h
      · rename_i ha hb
        cases h
        rw [SL.dec_enc _ _ _ ha, decL_enc _ _ _ hb]; rfl
      · cases h
    · cases h

inductive ST where
  | lf (s : SL)
  | agg (l : List SL)

@[reducible] def ST.den : ST → Type
  | .lf s => s.den
  | .agg l => denL l

def ST.enc : (s : ST) → s.den → TV
  | .lf s, d => .lf (s.enc d)
  | .agg l, d => .agg (encL l d)

def ST.dec : (s : ST) → TV → Option s.den
  | .lf s, x => match x with | .lf y => s.dec y | _ => none
  | .agg l, x => match x with | .agg y => decL l y | _ => none

theorem ST.dec_enc : ∀ (s : ST) (x : TV) (d : s.den), s.dec x = some d → x = s.enc d
  | .lf s, x, d, h => by
    simp only [ST.dec] at h
    split at h
    · rw [SL.dec_enc _ _ _ h]; rfl
    · cases h
  | .agg l, x, d, h => by
    simp only [ST.dec] at h
    split at h
    · rw [decL_enc _ _ _ h]; rfl
    · cases h

@[reducible] def denT : List ST → Type
  | [] => Unit
  | s :: r => s.den × denT r

def encT : (l : List ST) → denT l → List TV
  | [], _ => []
  | s :: r, d => s.enc d.1 :: encT r d.2

def decT : (l : List ST) → List TV → Option (denT l)
  | [], x => match x with | [] => some () | _ => none
  | s :: r, x => match x with
    | y :: q => match s.dec y, decT r q with
      | some a, some b => some (a, b)
      | _, _ => none
    | [] => none

theorem decT_enc : ∀ (l : List ST) (x : List TV) (d : denT l), decT l x = some d → x = encT l d
  | [], x, d, h => by
    simp only [decT] at h
    split at h
    · rfl
    · cases h
  | s :: r, x, d, h => by
    simp only [decT] at h
    split at h
    · split at h
      · rename_i ha hb
        cases h
        rw [ST.dec_enc _ _ _ ha, decT_enc _ _ _ hb]; rfl
      · cases h
    · cases h

/-- An object: is it lent for reading (none: either), and its entries. -/
structure SO where
  ro : Option Bool
  es : List SL

@[reducible] def denRo : Option Bool → Type
  | none => Bool
  | some _ => Unit

def encRo : (o : Option Bool) → denRo o → Bool
  | none, b => b
  | some b, _ => b

def decRo : (o : Option Bool) → Bool → Option (denRo o)
  | none, b => some b
  | some true, b => match b with | true => some () | false => none
  | some false, b => match b with | true => none | false => some ()

theorem decRo_enc : ∀ (o : Option Bool) (x : Bool) (d : denRo o), decRo o x = some d → x = encRo o d
  | none, x, d, h => by cases h; rfl
  | some true, x, d, h => by cases x <;> first | rfl | (simp [decRo] at h)
  | some false, x, d, h => by cases x <;> first | rfl | (simp [decRo] at h)

@[reducible] def denH : List (Option SO) → Type
  | [] => Unit
  | none :: r => Unit × denH r
  | some o :: r => (denRo o.ro × denL o.es) × denH r

def encH : (l : List (Option SO)) → denH l → Heap
  | [], _ => []
  | none :: r, d => none :: encH r d.2
  | some o :: r, d => some ⟨encRo o.ro d.1.1, encL o.es d.1.2⟩ :: encH r d.2

def decH : (l : List (Option SO)) → Heap → Option (denH l)
  | [], x => match x with | [] => some () | _ => none
  | none :: r, x => match x with
    | none :: q => match decH r q with
      | some b => some ((), b)
      | none => none
    | _ => none
  | some o :: r, x => match x with
    | some y :: q => match decRo o.ro y.ro, decL o.es y.es, decH r q with
      | some a, some b, some c => some ((a, b), c)
      | _, _, _ => none
    | _ => none

theorem decH_enc : ∀ (l : List (Option SO)) (x : Heap) (d : denH l), decH l x = some d → x = encH l d
  | [], x, d, h => by
    simp only [decH] at h
    split at h
    · rfl
    · cases h
  | none :: r, x, d, h => by
    simp only [decH] at h
    split at h
    · split at h
      · rename_i hb
        cases h
        rw [decH_enc _ _ _ hb]; rfl
      · cases h
    · cases h
  | some o :: r, x, d, h => by
    simp only [decH] at h
    split at h
    · split at h
      · rename_i ha hb hc
        cases h
        rw [decH_enc _ _ _ hc]
        have h1 := decRo_enc _ _ _ ha
        have h2 := decL_enc _ _ _ hb
        simp only [encH, ← h1, ← h2]
      · cases h
    · cases h

structure Sh where
  vs : List ST
  h : List (Option SO)

@[reducible] def Sh.den (s : Sh) : Type := denT s.vs × denH s.h

theorem encH_length : ∀ (l : List (Option SO)) (d : denH l), (encH l d).length = l.length
  | [], _ => rfl
  | none :: r, d => by simp [encH, encH_length r]
  | some o :: r, d => by simp [encH, encH_length r]

abbrev KF := List TV → Heap → Option Res
abbrev KL := Xt → List AV → Heap → Option Res

/-- A summary that is given by a typed function at a shape; elsewhere by another one. -/
def mkS (s : Sh) (l : s.den → KF → Option Res) (other : Summ) : Summ := fun vs h K =>
  match decT s.vs vs, decH s.h h with
  | some a, some b => l (a, b) K
  | _, _ => other vs h K

def noS : Summ := fun _ _ _ => none

def mkG (s : Sh) (live : List Nat) (out : Xt → List Nat) (l : s.den → KL → Option Res) : LoopS where
  live := live
  out := out
  run := fun vs h K => match decT s.vs vs, decH s.h h with
    | some a, some b => l (a, b) K
    | _, _ => none

section
variable {P : Program} {T : FuncId → Option Summ} {nt n0 : Nat} {LT : Nat → Option LoopS}

theorem mkG_run {s : Sh} {live : List Nat} {out : Xt → List Nat} {l : s.den → KL → Option Res} {vs : List TV} {h : Heap} {K : KL} {r : Res} (he : (mkG s live out l).run vs h K = some r) :
    ∃ d : s.den, vs = encT s.vs d.1 ∧ h = encH s.h d.2 ∧ l d K = some r := by
  change (match decT s.vs vs, decH s.h h with | some a, some b => l (a, b) K | _, _ => none) = some r at he
  split at he
  · rename_i a b ha hb
    exact ⟨(a, b), decT_enc _ _ _ ha, decH_enc _ _ _ hb, he⟩
  · cases he

theorem loopOK_of {s : Sh} {live : List Nat} {out : Xt → List Nat} {b : Code} (l : Nat → s.den → KL → Option Res) (F : Nat) (h0 : ∀ d K, l 0 d K = none)
    (hs : ∀ k d K, l (k + 1) d K = roundOf P T nt n0 LT (mkG s live out (l k)) b (encT s.vs d.1) (encH s.h d.2) K) :
    LoopOK P T nt n0 LT (mkG s live out (l F)) b := by
  refine ⟨fun k => mkG s live out (l k), fun k => ⟨rfl, rfl⟩, fun vs h K r he => ⟨F, he⟩, fun vs h K => ?_, fun k vs h K r he => ?_⟩
  · cases hq : (mkG s live out (l 0)).run vs h K with
    | none => rfl
    | some r =>
      obtain ⟨d, _, _, h3⟩ := mkG_run hq
      rw [h0] at h3; cases h3
  · obtain ⟨d, rfl, rfl, h3⟩ := mkG_run he
    rw [hs] at h3
    exact h3

theorem loopsOK_nil : LoopsOK P T nt n0 LT [] := fun b hb => by cases hb
theorem loopsOK_cons {b : Code} {l : List Code} {S : LoopS} (hS : LT (firstRegion b) = some S) (h : LoopOK P T nt n0 LT S b) (hl : LoopsOK P T nt n0 LT l) : LoopsOK P T nt n0 LT (b :: l) := by
  intro c hc S' hS'
  rcases List.mem_cons.1 hc with rfl | hc
  · rw [hS] at hS'; cases hS'; exact h
  · exact hl c hc S' hS'
/-- A loop that is not reached. -/
theorem loopsOK_skip {b : Code} {l : List Code} (hS : LT (firstRegion b) = none) (hl : LoopsOK P T nt n0 LT l) : LoopsOK P T nt n0 LT (b :: l) := by
  intro c hc S' hS'
  rcases List.mem_cons.1 hc with rfl | hc
  · rw [hS] at hS'; cases hS'
  · exact hl c hc S' hS'

/-- What is done at a body's end. -/
noncomputable def endK (P : Program) (n0 : Nat) (rv : List ResultVar) (K : List TV → Heap → Option Res) : Xt → Env → Heap → Option Res := fun e env h' => match e with
  | .normal => (match resVals P env h' rv with
    | some vs => normF n0 vs h' K
    | none => none)
  | .ret => (match resVals P env h' rv with
    | some vs => normF n0 vs h' K
    | none => none)
  | _ => none

theorem scopesOK_nil : ScopesOK P T nt n0 LT [] := fun b hb => by cases hb
theorem scopesOK_cons {b : Code} {l : List Code} {i : Nat} {S : LoopS} (hi : labelIn b = some i) (hS : LT (lkey i) = some S) (h : LabelOK P T nt n0 LT S i b) (hl : ScopesOK P T nt n0 LT l) : ScopesOK P T nt n0 LT (b :: l) := by
  intro c hc j S' hj hS'
  rcases List.mem_cons.1 hc with rfl | hc
  · rw [hi] at hj; cases hj
    rw [hS] at hS'; cases hS'; exact h
  · exact hl c hc j S' hj hS'
/-- A scope in which nothing jumps. -/
theorem scopesOK_skip {b : Code} {l : List Code} (hS : ∀ i, labelIn b = some i → LT (lkey i) = none) (hl : ScopesOK P T nt n0 LT l) : ScopesOK P T nt n0 LT (b :: l) := by
  intro c hc j S' hj hS'
  rcases List.mem_cons.1 hc with rfl | hc
  · rw [hS j hj] at hS'; cases hS'
  · exact hl c hc j S' hj hS'

theorem labelOK_of (hm : P.follows .mixedOrders = true) (hT : SoundT P T) {s : Sh} {live : List Nat} {out : Xt → List Nat} {b rest : Code} {i : Nat} (l : Nat → s.den → KL → Option Res) (F : Nat)
    (hf : findLabel b i = some rest) (h0 : ∀ d K, l 0 d K = none)
    (hs : ∀ k d K, l (k + 1) d K = passOf P T nt n0 LT (mkG s live out (l k)) i rest (encT s.vs d.1) (encH s.h d.2) K)
    (hl : LoopsOK P T nt n0 LT (loopsOf rest)) (hc : ScopesOK P T nt n0 LT (scopesOf rest)) :
    LabelOK P T nt n0 LT (mkG s live out (l F)) i b := by
  refine ⟨fun k => mkG s live out (l k), rest, hf, fun k => ⟨rfl, rfl⟩, fun vs h K r he => ⟨F, he⟩, fun vs h K => ?_, fun k vs h K r he => ?_, fun h1 h2 h3 h4 h5 => evC_wp hm hT rest hl hc h1 h2 h3 h4 h5⟩
  · cases hq : (mkG s live out (l 0)).run vs h K with
    | none => rfl
    | some r =>
      obtain ⟨d, _, _, h3⟩ := mkG_run hq
      rw [h0] at h3; cases h3
  · obtain ⟨d, rfl, rfl, h3⟩ := mkG_run he
    rw [hs] at h3
    exact h3

theorem noS_sound {f : FuncId} (he : ∀ args w, (callFunc f args).run P w = .ok (.enter f args) w) : SoundFn P f noS := ⟨he, fun vs h K r hev => by cases hev⟩

theorem enter_of {f : FuncId} {fn : Func} (hf : P.funcs[f]? = some fn) (hname : (fn.name == "runtime.NumGoroutine") = false) (hb : fn.body.isSome = true) (args : Array Value) (w : World) :
    (callFunc f args).run P w = .ok (.enter f args) w := by
  obtain ⟨c, hc⟩ := Option.isSome_iff_exists.1 hb
  have h1 : fn.name ≠ "runtime.NumGoroutine" := by simpa using hname
  simp [callFunc, hf, h1, hc]

theorem soundFn_of (hm : P.follows .mixedOrders = true) (hT : SoundT P T) {f : FuncId} {fn : Func} {c : Code} (hf : P.funcs[f]? = some fn) (hb : fn.body = some c) {s : Sh} {l : s.den → KF → Option Res} {other : Summ}
    (ho : SoundFn P f other) (hl : LoopsOK P T fn.ntmps s.h.length LT (loopsOf c)) (hsc : ScopesOK P T fn.ntmps s.h.length LT (scopesOf c))
    (hev : ∀ d K, evBody P T fn.ntmps s.h.length LT c fn.results.toList (encT s.vs d.1) (encH s.h d.2) K = l d K) : SoundFn P f (mkS s l other) := by
  refine ⟨ho.enter, fun vs h K r he => ?_⟩
  unfold mkS at he
  split at he
  · rename_i a b ha hb'
    have h1 := decT_enc _ _ _ ha
    have h2 := decH_enc _ _ _ hb'
    subst h1
    subst h2
    rw [← hev] at he
    intro G m w cvs hw hi hx
    exact evBody_sound hm hT hf hb hl hsc (encH_length _ _) he hi hx
  · exact ho.ok vs h K r he

theorem soundT_of {T : FuncId → Option Summ} (h : ∀ f S, T f = some S → SoundFn P f S) : SoundT P T := h

/-! ### Tables; the parts of code -/

def tab : List (Nat × Summ) → FuncId → Option Summ
  | [], _ => none
  | (g, S) :: r, f => if f = g then some S else tab r f

theorem tab_nil : SoundT P (tab []) := fun f S h => by cases h
theorem tab_cons {g : Nat} {S : Summ} {r : List (Nat × Summ)} (h : SoundFn P g S) (hr : SoundT P (tab r)) : SoundT P (tab ((g, S) :: r)) := fun f S' h' => by
  simp only [tab] at h'
  split at h'
  · rename_i hf; subst hf; cases h'; exact h
  · exact hr f S' h'

def outT : List (Xt × List Nat) → Xt → List Nat
  | [], _ => []
  | (e, l) :: r, x => if x = e then l else outT r x

def ltab : List (Nat × LoopS) → Nat → Option LoopS
  | [], _ => none
  | (g, S) :: r, f => if f = g then some S else ltab r f

def cL : Code → Code
  | .seq a _ => a
  | c => c
def cR : Code → Code
  | .seq _ b => b
  | c => c
def cT : Code → Code
  | .cond _ a _ => a
  | c => c
def cE : Code → Code
  | .cond _ _ b => b
  | c => c
def cB : Code → Code
  | .block _ a => a
  | .loop a => a
  | .scope a => a
  | c => c
def bodyOf (f : Func) : Code := match f.body with | some c => c | none => .skip

def iand (k : IntKind) (x y : Int) : Int := k.wrap (BitVec.ofInt k.bits x &&& BitVec.ofInt k.bits y).toNat
def ior (k : IntKind) (x y : Int) : Int := k.wrap (BitVec.ofInt k.bits x ||| BitVec.ofInt k.bits y).toNat
def ixor (k : IntKind) (x y : Int) : Int := k.wrap (BitVec.ofInt k.bits x ^^^ BitVec.ofInt k.bits y).toNat
def iandn (k : IntKind) (x y : Int) : Int := k.wrap (BitVec.ofInt k.bits x &&& ~~~ BitVec.ofInt k.bits y).toNat
def ishl (k : IntKind) (x y : Int) : Int := k.wrap (x * 2 ^ (min y.toNat k.bits))
def ishr (k : IntKind) (x y : Int) : Int := x.fdiv (2 ^ (min y.toNat k.bits))

/-! ### A row -/

def isTrueK : KF := fun rs _ => match rs with
  | [.lf (.bool b)] => cond b (some ([], [])) none
  | _ => none

theorem row_true {f : FuncId} {S : Summ} (hs : SoundFn P f S) {vs : List TV} {h : Heap} (he : S vs h isTrueK = some ([], [])) {m : GM} {w : World} {cvs : List Value} (hi : Inv ⟨w, fun _ => False⟩ m h w) (hx : TVs m vs cvs) :
    Calls P f cvs.toArray w fun e w' => e = .returned (.bool true) ∧ Ext w w' := by
  refine (hs.ok vs h _ _ he ⟨w, fun _ => False⟩ m w cvs rfl hi hx).mono ?_
  rintro e w' ⟨rs, h', hK, v, t, rfl, hr, hi'⟩
  refine ⟨?_, hi'.str, hi'.size, fun b hb => hi'.frame b hb (fun h => h)⟩
  unfold isTrueK at hK
  split at hK
  · rename_i b
    cases b with
    | false => cases hK
    | true =>
      have : v = .bool true := hr
      rw [this]
  · cases hK

end
end Go.Proofs.Ytlokielmpdjedaa.Ev
