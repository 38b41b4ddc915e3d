/- Merged: EvS16, EvS17, EvS20, EvF10, EvF10v6206, EvF11, EvF11v7155, EvF12, EvF12v568, EvF14, EvF45, EvF27, EvF46, EvF64, EvF47, EvF29, EvF84, EvF80, EvF73, EvF54, EvF74, EvF55, EvF53. -/
import Derived.Test.YtlgopekjjkdkiaaDoorMUndoKeepsCard2
import Derived.LoopN
import Derived.Scope
import Derived.ScopeJumps
import Derived.Laws.Sem
import Derived.RangeFuncCalls
import Derived.Test.YtlgopekjjkdkiaaDoorProg
import Derived.KernelRfl
section
/- The evaluator is sound, sixteenth part: code, loops, functions. -/
namespace Go.Proofs.YtlgopekjjkdkiaaDoor.Ev
open Go
set_option linter.unusedVariables false
set_option linter.unusedSimpArgs false
set_option linter.unusedSectionVars false
variable [FZ]

variable {P : Program}

def exitOf : Xt → Exit
  | .normal => .normal
  | .exit i => .exit i
  | .goto l => .goto l
  | .ret => .ret

/-- The first n0 objects stand as they stood. -/
def Pin (n0 : Nat) (m m' : GM) : Prop := n0 ≤ m'.length ∧ ∀ i, i < n0 → m'[i]? = m[i]?

theorem Pin.refl {n0 : Nat} {m : GM} (h : n0 ≤ m.length) : Pin n0 m m := ⟨h, fun _ _ => rfl⟩
theorem Pin.trans {n0 : Nat} {a b c : GM} (h : Pin n0 a b) (k : Pin n0 b c) : Pin n0 a c := ⟨k.1, fun i hi => (k.2 i hi).trans (h.2 i hi)⟩
theorem Pin.of_pre {n0 : Nat} {m m' : GM} (h : n0 ≤ m.length) (p : Pre m m') : Pin n0 m m' := by
  have hg : ∀ i, i < n0 → m'[i]? = m[i]? := fun i hi => by
    have hm : m[i]? = some (m[i]'(by omega)) := List.getElem?_eq_getElem _
    rw [hm]; exact p i _ hm
  refine ⟨?_, hg⟩
  cases n0 with
  | zero => omega
  | succ n =>
    have h1 := hg n (by omega)
    rcases Nat.lt_or_ge n m'.length with h2 | h2
    · exact h2
    · rw [List.getElem?_eq_none h2, List.getElem?_eq_getElem (by omega)] at h1; cases h1

/-- What is known of some slots. -/
def SlotsRel (m : GM) (a : Act) : List Nat → List AV → Prop
  | s :: ss, v :: vs => (isTop v ∨ AVRel m v (a.tmps.getD s undef)) ∧ SlotsRel m a ss vs
  | _, _ => True

theorem eget_topEnv (n i : Nat) : eget (topEnv n) i = .top := by
  induction n generalizing i with
  | zero => rfl
  | succ n ih => cases i with
    | zero => rfl
    | succ i => exact ih i

theorem topEnv_length (n : Nat) : (topEnv n).length = n := by
  induction n with
  | zero => rfl
  | succ n ih => simp [topEnv, ih]

theorem mkEnv_length (n : Nat) : ∀ (ss : List Nat) (vs : List AV), (mkEnv n ss vs).length = n
  | [], vs => by cases vs <;> simp [mkEnv, topEnv_length]
  | s :: ss, [] => by simp [mkEnv, topEnv_length]
  | s :: ss, v :: vs => by simp only [mkEnv, eset_length]; exact mkEnv_length n ss vs

theorem mkEnv_rel {G : Ctx} {m : GM} {a : Act} {n : Nat} (hn : n ≤ a.tmps.size) (hd : a.defers = G.dfs) : ∀ (ss : List Nat) (vs : List AV), SlotsRel m a ss vs → ERel G m (mkEnv n ss vs) a := by
  have base : ERel G m (topEnv n) a := ⟨by rw [topEnv_length]; exact hn, hd, fun i => by rw [eget_topEnv]; exact .inl trivial⟩
  intro ss
  induction ss with
  | nil => intro vs _; cases vs <;> exact base
  | cons s ss ih =>
    intro vs hs
    cases vs with
    | nil => exact base
    | cons v vs =>
      have he := ih vs hs.2
      refine ⟨by rw [mkEnv_length]; exact hn, hd, fun i => ?_⟩
      simp only [mkEnv]
      by_cases hi : s = i
      · subst hi
        by_cases hl : s < (mkEnv n ss vs).length
        · rw [eget_eset_same hl]; exact hs.1
        · rw [eget_out (by rw [eset_length]; exact Nat.le_of_not_lt hl)]; exact .inl trivial
      · rw [eget_eset_ne hi]; exact he.val i

theorem getAll_rel {G : Ctx} {m : GM} {env : Env} {a : Act} (he : ERel G m env a) : ∀ ss, SlotsRel m a ss (getAll env ss)
  | [] => trivial
  | s :: ss => ⟨he.val s, getAll_rel he ss⟩

theorem tvsOf_rel {m : GM} {a : Act} : ∀ {ss : List Nat} {avs : List AV} {vs : List TV}, avs.length = ss.length → SlotsRel m a ss avs → tvsOf avs = some vs → TVs m vs (ss.map fun s => a.tmps.getD s undef)
  | [], [], vs, _, _, h => by cases h; trivial
  | s :: ss, [], vs, hl, _, h => by simp at hl
  | [], v :: avs, vs, hl, _, h => by simp at hl
  | s :: ss, v :: avs, vs, hl, hs, h => by
    unfold tvsOf at h
    split at h
    · cases h; rename_i heq; cases heq
    · cases h
    · rename_i x r hne heq
      cases heq
      split at h
      · rename_i l hl'
        cases h
        refine ⟨?_, tvsOf_rel (by simpa using hl) hs.2 hl'⟩
        rcases hs.1 with ht | ht
        · match x, ht, hne with
          | .lf .top, _, hne => exact (hne rfl).elim
        · exact ht
      · cases h
    · cases h

theorem getAll_length (env : Env) : ∀ ss, (getAll env ss).length = ss.length
  | [] => rfl
  | s :: ss => by simp [getAll, getAll_length env ss]

theorem avsOf_rel {m : GM} {a : Act} : ∀ {ss : List Nat} {vs : List TV}, TVs m vs (ss.map fun s => a.tmps.getD s undef) → SlotsRel m a ss (avsOf vs)
  | [], [], _ => trivial
  | s :: ss, [], h => h.elim
  | [], v :: vs, h => h.elim
  | s :: ss, v :: vs, h => ⟨.inr h.1, avsOf_rel h.2⟩

theorem SlotsRel.mono {m m' : GM} {a : Act} (hp : Pre m m') : ∀ {ss : List Nat} {vs : List AV}, SlotsRel m a ss vs → SlotsRel m' a ss vs
  | [], vs, _ => by cases vs <;> trivial
  | s :: ss, [], _ => trivial
  | s :: ss, v :: vs, h => ⟨h.1.imp id (AVRel.mono hp), SlotsRel.mono hp h.2⟩

section
variable {T : FuncId → Option Summ} {X : Xtra} {nt n0 : Nat} {LT : Nat → Option LoopS}

/-- A care that follows another one: what is known under it holds under the first. -/
structure SubR (G G2 : Ctx) : Prop where
  inv : ∀ {m : GM} {h : Heap} {w : World}, Inv G2 m h w → Inv G m h w
  gh : G2.gh = G.gh
  dfs : ∀ d ∈ G2.dfs, d ∈ G.dfs ∨ ∃ D, d = ({ target := .collected D, args := #[] } : Deferred) ∧ G.w0.heap.size ≤ D
  size : G.w0.heap.size ≤ G2.w0.heap.size

theorem SubR.refl (G : Ctx) : SubR G G := ⟨id, rfl, fun d h => .inl h, Nat.le_refl _⟩
theorem SubR.trans {A B C : Ctx} (h : SubR A B) (k : SubR B C) : SubR A C :=
  ⟨fun i => h.inv (k.inv i), k.gh.trans h.gh, fun d hd => by
    rcases k.dfs d hd with h1 | ⟨D, h1, h2⟩
    · exact h.dfs d h1
    · exact .inr ⟨D, h1, Nat.le_trans h.size h2⟩, Nat.le_trans h.size k.size⟩

/-- Where no range over a function can stand, the care is the same. -/
def Sub (X : Xtra) (G G2 : Ctx) : Prop := G2 = G ∨ ((X.rd || X.y.isSome) = false ∧ SubR G G2)

theorem Sub.refl (X : Xtra) (G : Ctx) : Sub X G G := .inl rfl
theorem Sub.trans {X : Xtra} {A B C : Ctx} (h : Sub X A B) (k : Sub X B C) : Sub X A C := by
  rcases h with rfl | ⟨h1, h2⟩
  · exact k
  · rcases k with rfl | ⟨k1, k2⟩
    · exact .inr ⟨h1, h2⟩
    · exact .inr ⟨h1, h2.trans k2⟩

/-- What holds throughout a function's walk. -/
structure Std (P : Program) (X : Xtra) (n0 : Nat) (m0 : GM) (G : Ctx) : Prop where
  y : YOK P G m0 n0 X
  gn : ∀ x ∈ G.gh, x.1 < n0
  gb : (X.rd || X.y.isSome) = false → G.gh = []

theorem Std.sub {X : Xtra} {n0 : Nat} {m0 : GM} {G G2 : Ctx} (h : Std P X n0 m0 G) (k : Sub X G G2) : Std P X n0 m0 G2 := by
  rcases k with rfl | ⟨k1, k2⟩
  · exact h
  · refine ⟨fun y hy => ?_, by rw [k2.gh]; exact h.gn, by rw [k2.gh]; exact h.gb⟩
    rw [hy] at k1
    simp at k1

/-- A loop's summary holds: it is reached from below by summaries of which each is one round more. -/
def LoopOK (P : Program) (T : FuncId → Option Summ) (X : Xtra) (nt n0 : Nat) (LT : Nat → Option LoopS) (S : LoopS) (b : Code) : Prop :=
  ∃ g : Nat → LoopS, (∀ k, (g k).live = S.live ∧ (g k).out = S.out) ∧
    (∀ vs h K r, S.run vs h K = some r → ∃ n, (g n).run vs h K = some r) ∧
    (∀ vs h K, (g 0).run vs h K = none) ∧
    ∀ k vs h K r, (g (k + 1)).run vs h K = some r → roundOf P T X nt n0 LT (g k) b vs h K = some r

def loopsOf : Code → List Code
  | .seq a b => loopsOf a ++ loopsOf b
  | .cond _ a b => loopsOf a ++ loopsOf b
  | .block _ a => loopsOf a
  | .loop a => a :: loopsOf a
  | .scope a => loopsOf a
  | _ => []

def LoopsOK (P : Program) (T : FuncId → Option Summ) (X : Xtra) (nt n0 : Nat) (LT : Nat → Option LoopS) (l : List Code) : Prop :=
  ∀ b ∈ l, ∀ S, LT (firstRegion b) = some S → LoopOK P T X nt n0 LT S b

variable {r : Res}

/-- Behind a piece of code. -/
def After (X : Xtra) (G : Ctx) (m : GM) (n0 : Nat) (K : Xt → Env → Heap → Option Res) (r : Res) (Q : Exit → Act → World → Prop) : Prop :=
  ∀ G2, Sub X G G2 → ∀ e env' h' m' a' w', K e env' h' = some r → Inv G2 m' h' w' → Pin n0 m m' → ERel G2 m' env' a' → Q (exitOf e) a' w'

/-- Behind a loop. -/
def AfterL (X : Xtra) (G : Ctx) (nt n0 : Nat) (m : GM) (out : Xt → List Nat) (K : Xt → List AV → Heap → Option Res) (r : Res) (Q : Exit → Act → World → Prop) : Prop :=
  ∀ G2, Sub X G G2 → ∀ e avs h' m' a' w', K e avs h' = some r → Inv G2 m' h' w' → Pin n0 m m' → nt ≤ a'.tmps.size → a'.defers = G2.dfs → SlotsRel m' a' (out e) avs → Q (exitOf e) a' w'

/-- A label's summary holds: each is one pass more, and the code from the label on is walked soundly. -/
def LabelOK (P : Program) (T : FuncId → Option Summ) (X : Xtra) (nt n0 : Nat) (LT : Nat → Option LoopS) (S : LoopS) (l : Nat) (b : Code) : Prop :=
  ∃ (g : Nat → LoopS) (rest : Code), findLabel b l = some rest ∧ (∀ k, (g k).live = S.live ∧ (g k).out = S.out) ∧
    (∀ vs h K r, S.run vs h K = some r → ∃ n, (g n).run vs h K = some r) ∧
    (∀ vs h K, (g 0).run vs h K = none) ∧
    (∀ k vs h K r, (g (k + 1)).run vs h K = some r → passOf P T X nt n0 LT (g k) l rest vs h K = some r) ∧
    (∀ {m0 : GM} {G : Ctx} {r : Res} {Q : Exit → Act → World → Prop} {m : GM} {h : Heap} {w : World} {a : Act} {env : Env} {K : Xt → Env → Heap → Option Res}, Std P X n0 m0 G → Pin n0 m0 m → Inv G m h w → ERel G m env a →
      evC P T X nt n0 LT rest env h K = some r → After X G m n0 K r Q → rest.wp P Q a w)

def scopesOf : Code → List Code
  | .seq a b => scopesOf a ++ scopesOf b
  | .cond _ a b => scopesOf a ++ scopesOf b
  | .block _ a => scopesOf a
  | .loop a => scopesOf a
  | .scope a => a :: scopesOf a
  | _ => []

def ScopesOK (P : Program) (T : FuncId → Option Summ) (X : Xtra) (nt n0 : Nat) (LT : Nat → Option LoopS) (l : List Code) : Prop :=
  ∀ b ∈ l, ∀ i S, labelIn b = some i → LT (lkey i) = some S → LabelOK P T X nt n0 LT S i b

/-- Ranges over functions. -/
def rangesOf : Code → List Code
  | .seq a b => rangesOf a ++ rangesOf b
  | .cond _ a b => rangesOf a ++ rangesOf b
  | .block _ a => rangesOf a
  | .loop a => rangesOf a
  | .scope a => rangesOf a
  | .rangeFunc g ps x y => [.rangeFunc g ps x y]
  | _ => []

/-- A range's summary holds. -/
def RangeOK (P : Program) (X : Xtra) (nt n0 : Nat) (S : LoopS) (c : Code) : Prop :=
  ∀ {G : Ctx} {m : GM} {h : Heap} {w : World} {a : Act} {vs : List TV} {K : Xt → List AV → Heap → Option Res} {r : Res} {Q : Exit → Act → World → Prop} {n : Nat}, G.gh = [] → n0 ≤ m.length → Inv G m h w → nt ≤ a.tmps.size → a.defers = G.dfs →
    TVs m vs (S.live.map fun s => a.tmps.getD s undef) → S.run vs h K = some r → AfterL X G nt n0 m S.out K r Q → c.wpIn Fence.wide n P Q a w

def RangesOK (P : Program) (X : Xtra) (nt n0 : Nat) (LT : Nat → Option LoopS) (l : List Code) : Prop :=
  ∀ c ∈ l, ∀ g ps x y, c = .rangeFunc g ps x y → ∀ S, LT (rkey (firstRegion x)) = some S → RangeOK P X nt n0 S c

theorem loopIn_sound {G : Ctx} {S : LoopS} {m : GM} {h : Heap} {w : World} {a : Act} {env : Env} {K : Xt → List AV → Heap → Option Res} (hgn : ∀ x ∈ G.gh, x.1 < n0) (hn0 : n0 ≤ m.length) (hi : Inv G m h w) (he : ERel G m env a)
    (hev : loopIn nt n0 S env h K = some r) :
    ∃ vs' h' m', S.run vs' h' K = some r ∧ Inv G m' h' w ∧ Pin n0 m m' ∧ TVs m' vs' (S.live.map fun s => a.tmps.getD s undef) ∧ nt ≤ a.tmps.size := by
  unfold loopIn at hev
  split at hev
  · rename_i hle
    split at hev
    · rename_i vs hvs
      have hx := tvsOf_rel (getAll_length env S.live) (getAll_rel he S.live) hvs
      rw [normF_eq] at hev
      obtain ⟨vs', h', m', h1, h2, h3, h4, h5⟩ := normVs_sound hi hn0 hgn hx hev
      exact ⟨vs', h', m', h1, h2, ⟨h4, h5⟩, h3, Nat.le_trans (Nat.le_of_ble_eq_true hle) he.len⟩
    · cases hev
  · cases hev

/-- Rounds of a loop. -/
theorem rounds_sound {F : Fence} {k : Nat} {m0 : GM} {b : Code} {Q : Exit → Act → World → Prop} {g : Nat → LoopS} {K : Xt → List AV → Heap → Option Res} {live : List Nat} {out : Xt → List Nat}
    (hg : ∀ k, (g k).live = live ∧ (g k).out = out) (h0 : ∀ vs h K, (g 0).run vs h K = none)
    (hs : ∀ k vs h K r, (g (k + 1)).run vs h K = some r → roundOf P T X nt n0 LT (g k) b vs h K = some r)
    (ih : ∀ {G : Ctx} {Q : Exit → Act → World → Prop} {m : GM} {h : Heap} {w : World} {a : Act} {env : Env} {K : Xt → Env → Heap → Option Res}, Std P X n0 m0 G → Pin n0 m0 m → Inv G m h w → ERel G m env a →
      evC P T X nt n0 LT b env h K = some r → After X G m n0 K r Q → b.wpIn F k P Q a w) :
    ∀ (n : Nat) {G : Ctx} {m : GM} {h : Heap} {w : World} {a : Act} {vs : List TV}, Std P X n0 m0 G → Pin n0 m0 m → Inv G m h w → nt ≤ a.tmps.size → a.defers = G.dfs → TVs m vs (live.map fun s => a.tmps.getD s undef) →
      (g n).run vs h K = some r → AfterL X G nt n0 m out K r Q → Code.roundsIn F k P b Q n a w := by
  intro n
  induction n with
  | zero => intro G m h w a vs _ _ _ _ _ _ hrun; rw [h0] at hrun; cases hrun
  | succ n ihn =>
    intro G m h w a vs hst hp0 hi hnt hd hx hrun hq
    have hr := hs _ _ _ _ _ hrun
    unfold roundOf at hr
    rw [frcAs_eq] at hr
    rw [(hg n).1] at hr
    rw [roundsIn_succ]
    refine ih hst hp0 hi (mkEnv_rel hnt hd live _ (avsOf_rel hx)) hr ?_
    intro G2 hG2 e env' h' m' a' w' hK hi' hp he'
    have leave : ∀ {e : Xt}, loopOut nt (g n) e env' h' K = some r → Q (exitOf e) a' w' := by
      intro e hK
      unfold loopOut at hK
      split at hK
      · rename_i hle
        rw [(hg n).2] at hK
        exact hq G2 hG2 _ _ _ _ _ _ hK hi' hp (Nat.le_trans (Nat.le_of_ble_eq_true hle) he'.len) he'.dfr (getAll_rel he' (out _))
      · cases hK
    cases e with
    | normal =>
      have hst2 := hst.sub hG2
      obtain ⟨vs', h2, m2, h3, h4, h5, h6, h7⟩ := loopIn_sound hst2.gn hp.1 hi' he' hK
      rw [(hg n).1] at h6
      exact ihn hst2 (hp0.trans (hp.trans h5)) h4 h7 he'.dfr h6 h3 fun G3 hG3 e avs h3 m3 a3 w3 q1 q2 q3 => hq G3 (hG2.trans hG3) e avs h3 m3 a3 w3 q1 q2 (hp.trans (h5.trans q3))
    | exit i => exact leave hK
    | goto i => exact leave hK
    | ret => exact leave hK

theorem least {p : Nat → Prop} (h : ∃ n, p n) : ∃ n, p n ∧ ∀ k, p k → n ≤ k := by
  obtain ⟨n, hn⟩ := h
  induction n using Nat.strongRecOn with
  | _ n ih =>
    by_cases hk : ∃ k, k < n ∧ p k
    · obtain ⟨k, h1, h2⟩ := hk
      exact ih k h1 h2
    · exact ⟨n, hn, fun k h => Nat.le_of_not_lt fun hlt => hk ⟨k, hlt, h⟩⟩

open Classical in
/-- Passes from a label on. -/
theorem passes_sound {b rest : Code} {l : Nat} {Q : Exit → Act → World → Prop} {g : Nat → LoopS} {K : Xt → List AV → Heap → Option Res} {live : List Nat} {out : Xt → List Nat} {m0 m1 : GM} {G0 : Ctx}
    (hf : findLabel b l = some rest) (hg : ∀ k, (g k).live = live ∧ (g k).out = out) (h0 : ∀ vs h K, (g 0).run vs h K = none)
    (hs : ∀ k vs h K r, (g (k + 1)).run vs h K = some r → passOf P T X nt n0 LT (g k) l rest vs h K = some r)
    (ih : ∀ {G : Ctx} {Q : Exit → Act → World → Prop} {m : GM} {h : Heap} {w : World} {a : Act} {env : Env} {K : Xt → Env → Heap → Option Res}, Std P X n0 m0 G → Pin n0 m0 m → Inv G m h w → ERel G m env a →
      evC P T X nt n0 LT rest env h K = some r → After X G m n0 K r Q → rest.wp P Q a w)
    (hst : Std P X n0 m0 G0) (hp0 : Pin n0 m0 m1)
    (hq : ∀ G, Sub X G0 G → ∀ e avs h' m' a' w', K e avs h' = some r → Inv G m' h' w' → Pin n0 m1 m' → nt ≤ a'.tmps.size → a'.defers = G.dfs → SlotsRel m' a' (out e) avs → (∀ i, e ≠ .goto i) → Q (exitOf e) a' w')
    {a : Act} {w : World}
    (first : b.wp P (Exit.jump l (fun a w => ∃ n G m h vs, (g n).run vs h K = some r ∧ Sub X G0 G ∧ Inv G m h w ∧ Pin n0 m1 m ∧ nt ≤ a.tmps.size ∧ a.defers = G.dfs ∧ TVs m vs (live.map fun s => a.tmps.getD s undef)) Q) a w) :
    (Code.scope b).wp P Q a w := by
  let Jn : Nat → Act → World → Prop := fun n a w => ∃ G m h vs, (g n).run vs h K = some r ∧ Sub X G0 G ∧ Inv G m h w ∧ Pin n0 m1 m ∧ nt ≤ a.tmps.size ∧ a.defers = G.dfs ∧ TVs m vs (live.map fun s => a.tmps.getD s undef)
  let J : Act → World → Prop := fun a w => ∃ n, Jn n a w
  let mu : Act → World → Nat := fun a w => if hJ : J a w then Classical.choose (least hJ) else 0
  refine wp_scope_jumps l J mu hf (wp_mono first ?_) ?_
  · intro e a w hh
    cases e with
    | goto i => exact ⟨hh.1, hh.2⟩
    | _ => exact hh
  · intro a w hJ
    have hmin := (Classical.choose_spec (least hJ)).1
    have hmu : mu a w = Classical.choose (least hJ) := dif_pos hJ
    obtain ⟨G, m, h, vs, hrun, hG, hi, hpin, hnt, hd, hx⟩ := hmin
    cases hk : Classical.choose (least hJ) with
    | zero => rw [hk, h0] at hrun; cases hrun
    | succ k =>
      rw [hk] at hrun hmu
      have hr := hs _ _ _ _ _ hrun
      unfold passOf at hr
      rw [frcAs_eq, (hg k).1] at hr
      have hst1 := hst.sub hG
      refine ih hst1 (hp0.trans hpin) hi (mkEnv_rel hnt hd live _ (avsOf_rel hx)) hr ?_
      intro G2 hG2 e env' h' m' a' w' hK hi' hp he'
      have leave : ∀ {e : Xt}, (∀ i, e ≠ .goto i) → loopOut nt (g k) e env' h' K = some r → Q (exitOf e) a' w' := by
        intro e hne hK
        unfold loopOut at hK
        split at hK
        · rename_i hle
          rw [(hg k).2] at hK
          exact hq G2 (hG.trans hG2) _ _ _ _ _ _ hK hi' (hpin.trans hp) (Nat.le_trans (Nat.le_of_ble_eq_true hle) he'.len) he'.dfr (getAll_rel he' (out _)) hne
        · cases hK
      cases e with
      | normal => exact leave (by intro i h; cases h) hK
      | exit i => exact leave (by intro j h; cases h) hK
      | ret => exact leave (by intro i h; cases h) hK
      | goto i =>
        simp only at hK
        split at hK
        · rename_i hil
          subst hil
          obtain ⟨vs', h2, m2, h3, h4, h5, h6, h7⟩ := loopIn_sound (hst1.sub hG2).gn hp.1 hi' he' hK
          rw [(hg k).1] at h6
          have hJk : Jn k a' w' := ⟨G2, m2, h2, vs', h3, hG.trans hG2, h4, hpin.trans (hp.trans h5), h7, he'.dfr, h6⟩
          have hJ' : J a' w' := ⟨k, hJk⟩
          refine ⟨rfl, hJ', ?_⟩
          have e1 : mu a' w' = Classical.choose (least hJ') := dif_pos hJ'
          have e2 : Classical.choose (least hJ') ≤ k := (Classical.choose_spec (least hJ')).2 k hJk
          show mu a' w' < mu a w
          omega
        · cases hK

theorem evC_wp {ro : Option Nat} {n : Nat} {m0 : GM} (hr1 : X.rd = false → ro = none) (hr2 : X.y.isSome = true → ro = none) (hm : P.follows .mixedOrders = true) (hT : SoundT P T) : ∀ (c : Code), LoopsOK P T X nt n0 LT (loopsOf c) → ScopesOK P T X nt n0 LT (scopesOf c) → RangesOK P X nt n0 LT (rangesOf c) →
    ∀ {G : Ctx} {Q : Exit → Act → World → Prop} {m : GM} {h : Heap} {w : World} {a : Act} {env : Env} {K : Xt → Env → Heap → Option Res}, Std P X n0 m0 G → Pin n0 m0 m → Inv G m h w → ERel G m env a →
      evC P T X nt n0 LT c env h K = some r → After X G m n0 K r Q → c.wpIn (FR ro) n P Q a w := by
  intro c
  induction c with
  | skip => intro hl hc hR G Q m h w a env K hst hp0 hi he hev hq; exact wpIn_skip (hq G (Sub.refl X G) _ _ _ _ _ _ hev hi (Pin.refl hp0.1) he)
  | region id ops dr =>
    intro hl hc hR G Q m h w a env K hst hp0 hi he hev hq
    cases dr with
    | false =>
      simp only [evC] at hev
      exact wpIn_region_list (evOps_wpIn hT hst.y hr2 ops.toList hp0.1 hp0.2 hi he hev fun env' h' m' a' w' q1 q2 q3 q4 => hq G (Sub.refl X G) _ _ _ _ _ _ q1 q2 (Pin.of_pre hp0.1 q3) q4)
    | true =>
      simp only [evC, frcAs_eq, frcH_eq] at hev
      split at hev
      · cases hev
      · rename_i hrd
        obtain rfl := hr1 (by simpa using hrd)
        split at hev
        · rename_i l hp
          have hp' : plan P (!!X.wr.contains id) ops = some l := by rw [Bool.not_not]; exact hp
          exact wpIn_wide.2 (region_drawn rfl hm hT hp' hi he hev fun env' h' m' a' w' q1 q2 q3 q4 => hq G (Sub.refl X G) _ _ _ _ _ _ q1 q2 (Pin.of_pre hp0.1 q3) q4)
        · cases hev
  | seq x y ihx ihy =>
    intro hl hc hR G Q m h w a env K hst hp0 hi he hev hq
    simp only [evC] at hev
    refine wpIn_seq (ihx (fun b hb => hl b (by simp [loopsOf, hb])) (fun b hb => hc b (by simp [scopesOf, hb])) (fun b hb => hR b (by simp [rangesOf, hb])) hst hp0 hi he hev ?_)
    intro G2 hG2 e env' h' m' a' w' hK hi' hp he'
    cases e with
    | normal => exact ihy (fun b hb => hl b (by simp [loopsOf, hb])) (fun b hb => hc b (by simp [scopesOf, hb])) (fun b hb => hR b (by simp [rangesOf, hb])) (hst.sub hG2) (hp0.trans hp) hi' he' hK fun G3 hG3 e2 env2 h2 m2 a2 w2 q1 q2 q3 q4 => hq G3 (hG2.trans hG3) _ _ _ _ _ _ q1 q2 (hp.trans q3) q4
    | exit i => exact hq G2 hG2 (.exit i) _ _ _ _ _ hK hi' hp he'
    | goto i => exact hq G2 hG2 (.goto i) _ _ _ _ _ hK hi' hp he'
    | ret => exact hq G2 hG2 .ret _ _ _ _ _ hK hi' hp he'
  | cond c x y ihx ihy =>
    intro hl hc hR G Q m h w a env K hst hp0 hi he hev hq
    simp only [evC] at hev
    split at hev
    · rename_i t ht
      have hcv : a.eval c = .bool t := opd_rel he ht
      refine wpIn_cond hcv ?_
      cases t with
      | true => exact ihx (fun b hb => hl b (by simp [loopsOf, hb])) (fun b hb => hc b (by simp [scopesOf, hb])) (fun b hb => hR b (by simp [rangesOf, hb])) hst hp0 hi he hev hq
      | false => exact ihy (fun b hb => hl b (by simp [loopsOf, hb])) (fun b hb => hc b (by simp [scopesOf, hb])) (fun b hb => hR b (by simp [rangesOf, hb])) hst hp0 hi he hev hq
    · cases hev
  | block id b ih =>
    intro hl hc hR G Q m h w a env K hst hp0 hi he hev hq
    simp only [evC] at hev
    refine wpIn_block (ih hl hc hR hst hp0 hi he hev ?_)
    intro G2 hG2 e env' h' m' a' w' hK hi' hp he'
    cases e with
    | normal => exact hq G2 hG2 .normal _ _ _ _ _ hK hi' hp he'
    | exit j =>
      simp only at hK
      simp only [exitOf, Exit.inBlock]
      split at hK
      · rename_i hj; rw [if_pos hj]; exact hq G2 hG2 .normal _ _ _ _ _ hK hi' hp he'
      · rename_i hj; rw [if_neg hj]; exact hq G2 hG2 (.exit j) _ _ _ _ _ hK hi' hp he'
    | goto i => exact hq G2 hG2 (.goto i) _ _ _ _ _ hK hi' hp he'
    | ret => exact hq G2 hG2 .ret _ _ _ _ _ hK hi' hp he'
  | loop b ih =>
    intro hl hc hR G Q m h w a env K hst hp0 hi he hev hq
    simp only [evC] at hev
    split at hev
    · rename_i S hS
      obtain ⟨g, hg, h1, h2, h3⟩ := hl b (by simp [loopsOf]) S hS
      obtain ⟨vs', h', m', q1, q2, q3, q4, q5⟩ := loopIn_sound hst.gn hp0.1 hi he hev
      obtain ⟨k, hrun⟩ := h1 _ _ _ _ q1
      refine wpIn_loop_rounds k (rounds_sound (live := S.live) (out := S.out) hg h2 h3 (ih (fun b' hb => hl b' (by simp [loopsOf, hb])) (fun b' hb => hc b' (by simpa [scopesOf] using hb)) (fun b' hb => hR b' (by simpa [rangesOf] using hb))) k hst (hp0.trans q3) q2 q5 he.dfr q4 hrun ?_)
      intro G2 hG2 e avs h'' m'' a'' w'' p1 p2 p3 p4 p5 p6
      simp only [frcAs_eq, frcH_eq] at p1
      exact hq G2 hG2 _ _ _ _ _ _ p1 p2 (q3.trans p3) (mkEnv_rel p4 p5 _ _ p6)
    · cases hev
  | rangeFunc f ps x y ihx ihy =>
    intro hl hc hR G Q m h w a env K hst hp0 hi he hev hq
    simp only [evC] at hev
    split at hev
    · cases hev
    · rename_i hno
      have hno' : (X.rd || X.y.isSome) = false := by simpa using hno
      obtain rfl := hr1 (by simp at hno'; exact hno'.1)
      split at hev
      · rename_i S hS
        obtain ⟨vs', h', m', q1, q2, q3, q4, q5⟩ := loopIn_sound hst.gn hp0.1 hi he hev
        refine hR _ (by simp [rangesOf]) f ps x y rfl S hS (hst.gb hno') q3.1 q2 q5 he.dfr q4 q1 ?_
        intro G2 hG2 e avs h'' m'' a'' w'' p1 p2 p3 p4 p5 p6
        simp only [frcAs_eq, frcH_eq] at p1
        exact hq G2 hG2 _ _ _ _ _ _ p1 p2 (q3.trans p3) (mkEnv_rel p4 p5 _ _ p6)
      · cases hev
  | exit id => intro hl hc hR G Q m h w a env K hst hp0 hi he hev hq; exact wpIn_exit (hq G (Sub.refl X G) (.exit id) _ _ _ _ _ hev hi (Pin.refl hp0.1) he)
  | scope b ih =>
    intro hl hc hR G Q m h w a env K hst hp0 hi he hev hq
    simp only [evC] at hev
    split at hev
    · cases hev
    rename_i hrd
    obtain rfl := hr1 (by simpa using hrd)
    refine wpIn_wide.2 ?_
    have ihb : ∀ {Q : Exit → Act → World → Prop} {K : Xt → Env → Heap → Option Res}, evC P T X nt n0 LT b env h K = some r → After X G m n0 K r Q → b.wp P Q a w :=
      fun hev hq => wpIn_wide.1 (ih (fun b' hb => hl b' (by simpa [loopsOf] using hb)) (fun b' hb => hc b' (by simp [scopesOf, hb])) (fun b' hb => hR b' (by simpa [rangesOf] using hb)) hst hp0 hi he hev hq)
    by_cases hex : ∃ l S, labelIn b = some l ∧ LT (lkey l) = some S
    · obtain ⟨l, S, hlab, hS⟩ := hex
      obtain ⟨g, rest, hf, hg, h1, h2, h3, h4⟩ := hc b (by simp [scopesOf]) l S hlab hS
      refine passes_sound (G0 := G) (r := r) (m0 := m0) (m1 := m) (live := S.live) (out := S.out) (K := fun e vs' h' => frcAs (mkEnv nt (S.out e) vs') fun env => frcH h' fun h' => K e env h') hf hg h2 h3 h4 hst hp0 ?_ ?_
      · intro G2 hG2 e avs h'' m'' a'' w'' p1 p2 p3 p4 p5 p6 p7
        simp only [frcAs_eq, frcH_eq] at p1
        exact hq G2 hG2 _ _ _ _ _ _ p1 p2 p3 (mkEnv_rel p4 p5 _ _ p6)
      · refine ihb hev ?_
        intro G2 hG2 e env' h' m' a' w' hK hi' hp he'
        cases e with
        | normal => exact hq G2 hG2 .normal _ _ _ _ _ hK hi' hp he'
        | exit i => exact hq G2 hG2 (.exit i) _ _ _ _ _ hK hi' hp he'
        | ret => exact hq G2 hG2 .ret _ _ _ _ _ hK hi' hp he'
        | goto i =>
          simp only at hK
          split at hK
          · cases hK
          · rename_i hli
            have hil : l = i := Option.some.inj (hlab.symm.trans (Classical.not_not.1 hli))
            subst hil
            rw [hS] at hK
            obtain ⟨vs', h2', m2, q1, q2, q3, q4, q5⟩ := loopIn_sound (hst.sub hG2).gn hp.1 hi' he' hK
            obtain ⟨k, hn'⟩ := h1 _ _ _ _ q1
            exact ⟨rfl, k, G2, m2, h2', vs', hn', hG2, q2, hp.trans q3, q5, he'.dfr, q4⟩
    · refine wp_scope_straight (ihb hev ?_)
      intro G2 hG2 e env' h' m' a' w' hK hi' hp he'
      cases e with
      | normal => exact hq G2 hG2 .normal _ _ _ _ _ hK hi' hp he'
      | exit i => exact hq G2 hG2 (.exit i) _ _ _ _ _ hK hi' hp he'
      | ret => exact hq G2 hG2 .ret _ _ _ _ _ hK hi' hp he'
      | goto i =>
        simp only at hK
        split at hK
        · cases hK
        · rename_i hli
          split at hK
          · rename_i S' hS'
            exact (hex ⟨i, S', Classical.not_not.1 hli, hS'⟩).elim
          · cases hK
  | label l => intro hl hc hR G Q m h w a env K hst hp0 hi he hev hq; exact wpIn_label (hq G (Sub.refl X G) .normal _ _ _ _ _ hev hi (Pin.refl hp0.1) he)
  | goto l => intro hl hc hR G Q m h w a env K hst hp0 hi he hev hq; exact wpIn_goto (hq G (Sub.refl X G) (.goto l) _ _ _ _ _ hev hi (Pin.refl hp0.1) he)
  | ret => intro hl hc hR G Q m h w a env K hst hp0 hi he hev hq; exact wpIn_ret (hq G (Sub.refl X G) .ret _ _ _ _ _ hev hi (Pin.refl hp0.1) he)
  | refuse s => intro hl hc hR G Q m h w a env K hst hp0 hi he hev hq; simp only [evC] at hev; cases hev

/-! ### Functions -/

def resGet (a : Act) : ResultVar → Sem Value
  | .tmp t => pure (a.tmps.getD t undef)
  | .cell x t => do loadVar t (← asAddr (a.tmps.getD x undef))

theorem resVals_list {G G' : Ctx} {m : GM} {h : Heap} {w : World} {a : Act} {env : Env} (hi : Inv G m h w) (he : ERel G' m env a) : ∀ (l : List ResultVar) (vs : List TV), resVals P env h l = some vs →
    ∃ xs, TVs m vs xs ∧ (l.mapM (resGet a)).run P w = .ok xs w
  | [], vs, hv => by cases hv; exact ⟨[], trivial, by simp [List.mapM_nil]⟩
  | .tmp t :: l, vs, hv => by
    simp only [resVals] at hv
    split at hv
    · cases hv
    · rename_i v l' hne hx hl
      cases hv
      obtain ⟨xs, h1, h2⟩ := resVals_list hi he l _ hl
      refine ⟨a.tmps.getD t undef :: xs, ⟨?_, h1⟩, ?_⟩
      · have := he.val t
        rw [hx] at this
        rcases this with ht | ht
        · match v, ht, hne with
          | .lf .top, _, hne => exact (hne rfl).elim
        · exact ht
      · rw [List.mapM_cons]
        simp only [resGet, Sem.run_bind, Sem.run_pure, Result.andThen_ok, h2]
    · cases hv
  | .cell x t :: l, vs, hv => by
    simp only [resVals] at hv
    split at hv
    · rename_i id off hx
      split at hv
      · rename_i ob hob
        split at hv
        · rename_i es hes
          split at hv
          · rename_i v q hld hl
            cases hv
            obtain ⟨xs, h1, h2⟩ := resVals_list hi he l _ hl
            obtain ⟨g, b, hg, hb, hv'⟩ : ∃ g b, m[id]? = some g ∧ g.addr = some b ∧ a.tmps.getD x undef = .pointer (some (at_ b off)) := by
              have := he.val x
              rw [hx] at this
              exact this.resolve_left (fun h => h)
            obtain ⟨cs, hoc, hrd⟩ := hi.read hob hg hb
            obtain ⟨h3, h4⟩ := dropW_cells hes hoc
            obtain ⟨val, hval, hrun, _⟩ := ldE_run hld h4
            have := hrun b off w (fun j u hu => hrd w (Ext.refl w) (off + j) u (by rw [List.getElem?_drop] at hu; exact hu))
            refine ⟨val :: xs, ⟨hval, h1⟩, ?_⟩
            rw [List.mapM_cons]
            simp [resGet, Sem.run_bind, Result.andThen_ok, h2, hv', asAddr, this]
          · cases hv
        · cases hv
      · cases hv
    · cases hv

theorem results_of {fn : Func} {m : GM} {h : Heap} {w : World} {a : Act} {env : Env} {vs : List TV} {G G' : Ctx} (hi : Inv G m h w) (he : ERel G' m env a) (hv : resVals P env h fn.results.toList = some vs) :
    ∃ xs, TVs m vs xs ∧ (results fn a.tmps).run P w = .ok (if h : xs.toArray.size = 1 then xs.toArray[0] else .tuple xs.toArray) w := by
  obtain ⟨xs, h1, h2⟩ := resVals_list hi he _ _ hv
  refine ⟨xs, h1, ?_⟩
  have : results fn a.tmps = (do
      let ys ← fn.results.mapM (resGet a)
      pure (if h : ys.size = 1 then ys[0] else .tuple ys)) := by
    unfold results
    congr 2
  rw [this, Array.mapM_eq_mapM_toList]
  simp only [Sem.run_bind, map_eq_pure_bind, Sem.run_pure, Result.andThen_ok, h2]

theorem TVs.length_eq {m : GM} : ∀ {vs : List TV} {xs : List Value}, TVs m vs xs → vs.length = xs.length
  | [], [], _ => rfl
  | v :: vs, x :: xs, h => by simp [TVs.length_eq h.2]
  | [], _ :: _, h => h.elim
  | _ :: _, [], h => h.elim

theorem resRel_of {m : GM} {vs : List TV} {xs : List Value} (h : TVs m vs xs) : ResRel m vs (if h : xs.toArray.size = 1 then xs.toArray[0] else .tuple xs.toArray) := by
  match vs, xs, h with
  | [], [], h => exact ⟨#[], rfl, trivial⟩
  | [x], [y], h => exact h.1
  | x :: y :: r, a :: b :: s, h => exact ⟨_, by simp, h⟩
  | [x], _ :: _ :: _, h => exact h.2.elim
  | _ :: _ :: _, [y], h => exact h.2.elim

theorem eget_argEnv : ∀ (n : Nat) (vs : List TV) (i : Nat), eget (argEnv n vs) i = .top ∨ ∃ v, vs[i]? = some v ∧ eget (argEnv n vs) i = .tv v
  | 0, _, _ => .inl rfl
  | n + 1, [], 0 => .inl rfl
  | n + 1, [], i + 1 => by
    rcases eget_argEnv n [] i with h | ⟨v, h, _⟩
    · exact .inl h
    · simp at h
  | n + 1, v :: r, 0 => .inr ⟨v, rfl, rfl⟩
  | n + 1, v :: r, i + 1 => by
    rcases eget_argEnv n r i with h | ⟨v', h1, h2⟩
    · exact .inl h
    · exact .inr ⟨v', by simpa using h1, h2⟩

theorem argEnv_length : ∀ (n : Nat) (vs : List TV), (argEnv n vs).length = n
  | 0, _ => rfl
  | n + 1, [] => by simp [argEnv, argEnv_length n []]
  | n + 1, v :: r => by simp [argEnv, argEnv_length n r]

theorem TVs.get {m : GM} : ∀ {vs : List TV} {xs : List Value}, TVs m vs xs → ∀ {i : Nat} {v : TV}, vs[i]? = some v → ∃ x, xs[i]? = some x ∧ TVRel m v x
  | v :: vs, x :: xs, h, 0, _, hv => by simp only [List.getElem?_cons_zero, Option.some.injEq] at hv; subst hv; exact ⟨x, rfl, h.1⟩
  | v :: vs, x :: xs, h, i + 1, _, hv => by simpa using TVs.get h.2 (by simpa using hv)
  | [], [], _, _, _, hv => by simp at hv
  | [], _ :: _, h, _, _, _ => h.elim
  | _ :: _, [], h, _, _, _ => h.elim

theorem argEnv_rel {m : GM} {n : Nat} {vs : List TV} {xs : List Value} (h : TVs m vs xs) {G : Ctx} (hG : G.dfs = []) : ERel G m (argEnv n vs) { tmps := xs.toArray ++ Array.replicate (n - xs.toArray.size) undef, defers := [] } := by
  refine ⟨by rw [argEnv_length]; simp; omega, hG.symm, fun i => ?_⟩
  rcases eget_argEnv n vs i with h1 | ⟨v, h1, h2⟩
  · rw [h1]; exact .inl trivial
  · rw [h2]
    obtain ⟨x, hx, hr⟩ := h.get h1
    refine .inr ?_
    have hlt := (List.getElem?_eq_some_iff.1 hx).1
    simp only [Array.getD_eq_getD_getElem?]
    rw [Array.getElem?_append_left (by simpa using hlt)]
    simp only [List.getElem?_toArray, hx, Option.getD_some]
    exact hr

/-- A block that holds no cells turns. -/
theorem Inv.turn {G : Ctx} {m : GM} {h : Heap} {w : World} (hi : Inv G m h w) {l : Nat} {o o' : Obj} (hl : w.heap[l]? = some o) (hc : o.isCells = false) (hs : G.w0.heap.size ≤ l)
    (hd : ∀ x ∈ G.gh, x.2.1 = l → hget h x.1 = none) : Inv G m h (w.putObj l o') := by
  have same : ∀ b, b ≠ l → (w.putObj l o').heap[b]? = w.heap[b]? := fun b hb => World.putObj_heap_other hb
  refine ⟨hi.len, fun id ob g h1 h2 => ?_, hi.own, hi.dist, hi.str.trans ⟨rfl, rfl, rfl⟩, ?_, fun b hb hO => ?_, hi.fz, fun x hx => ⟨(hi.gh x hx).1, fun ob ho => ?_⟩⟩
  · obtain ⟨q1, cs, q2, q3⟩ := hi.obs id ob g h1 h2
    refine ⟨q1, cs, q2, ?_⟩
    rcases q3 with q3 | ⟨b, blk, t, fr, p1, p2, p3⟩
    · exact .inl q3
    · refine .inr ⟨b, blk, t, fr, p1, ?_, p3⟩
      rw [same b.1 (fun e => ?_)]
      · exact p2
      · rw [e, hl] at p2
        rw [Option.some.inj p2] at hc
        cases hc
  · have := hi.size
    simp only [World.putObj, Array.size_setIfInBounds]
    exact this
  · rw [same b (by omega)]
    exact hi.frame b hb hO
  · obtain ⟨q1, q2⟩ := (hi.gh x hx).2 ob ho
    refine ⟨(same _ fun e => ?_).trans q1, q2⟩
    rw [hd x hx e] at ho
    cases ho

/-- The marks among the deferred calls are taken: no call came of them. -/
theorem leaves_marks {G : Ctx} {m : GM} {h : Heap} {fn : Func} {tmps : Array Value} {R : Ending → World → Prop} {n : Nat} (hgh : G.gh = [])
    (fin : ∀ w, Inv G m h w → ∃ v, (results fn tmps).run P w = .ok v w ∧ R (.returned v) w) :
    ∀ (ds : List Deferred) (w : World), Inv G m h w → ds.Pairwise (· ≠ ·) → (∀ d ∈ ds, ∃ D, d = { target := .collected D, args := #[] } ∧ w.heap[D]? = some (.deferred (some [])) ∧ G.w0.heap.size ≤ D) →
      LeavesInM Fence.wide n P fn tmps R ds .returning w
  | [], w, hi, _, _ => fin w hi
  | d :: ds, w, hi, hnd, hds => by
    obtain ⟨D, rfl, hD, hs⟩ := hds d (by simp)
    refine ⟨by simp, .inl ⟨D, _, rfl, run_takeDeferred hD, ?_⟩⟩
    refine leaves_marks hgh fin ds _ (hi.turn hD rfl hs (by rw [hgh]; intro x hx; cases hx)) (List.pairwise_cons.1 hnd).2 fun d' hd' => ?_
    obtain ⟨D', rfl, hD', hs'⟩ := hds d' (by simp [hd'])
    refine ⟨D', rfl, ?_, hs'⟩
    rw [World.putObj_heap_other (fun e => ?_)]
    · exact hD'
    · exact (List.pairwise_cons.1 hnd).1 _ hd' (by rw [e])

/-- A function's body, walked. -/
theorem evBody_sound (hX : X.rd = false) (hXy : X.y = none) (hm : P.follows .mixedOrders = true) (hT : SoundT P T) {f : FuncId} {fn : Func} {c : Code} (hf : P.funcs[f]? = some fn) (hb : fn.body = some c) (hl : LoopsOK P T X fn.ntmps n0 LT (loopsOf c)) (hsc : ScopesOK P T X fn.ntmps n0 LT (scopesOf c)) (hrg : RangesOK P X fn.ntmps n0 LT (rangesOf c))
    {mv : List Nat} {vs : List TV} {h : Heap} (hn0 : h.length = n0) {K : List TV → Heap → Option Res} {r : Res} (hev : evBody P T X fn.ntmps n0 LT mv c fn.results.toList vs h K = some r) {G : Ctx} {m : GM} {w : World} {xs : List Value}
    (hgd : G.dfs = []) (hgh : G.gh = []) (hi : Inv G m h w) (hx : TVs m vs xs) :
    Calls P f xs.toArray w fun e w' => ∃ rs h', K rs h' = some r ∧ ∃ v t, e = .returned v ∧ ResRel (m ++ t) rs v ∧ Inv G (m ++ t) h' w' := by
  refine (callsIn_wide (n := 0)).1 (callsIn_of_wp_marks hf hb trivial ?_)
  have hlen : m.length = n0 := hi.len.trans hn0
  unfold evBody at hev
  rw [frcAs_eq] at hev
  have hst : Std P X n0 m G := ⟨fun y hy => (by rw [hXy] at hy; cases hy), fun x hx => (by rw [hgh] at hx; cases hx), fun _ => hgh⟩
  refine evC_wp (ro := none) (n := 0) (fun _ => rfl) (fun _ => rfl) hm hT c hl hsc hrg hst (Pin.refl (Nat.le_of_eq hlen.symm)) hi (argEnv_rel hx hgd) hev ?_
  intro G2 hG2 e env' h' m' a' w' hK hi' hp he'
  have hsub : SubR G G2 := by
    rcases hG2 with rfl | ⟨_, h0⟩
    · exact SubR.refl _
    · exact h0
  have fin : ∀ {q : Option (List TV)}, resVals P env' h' fn.results.toList = q → (match q with | some vs => normF n0 mv vs h' K | none => none) = some r →
      LeavesInM Fence.wide 0 P fn a'.tmps (fun e w' => ∃ rs h', K rs h' = some r ∧ ∃ v' t, e = .returned v' ∧ ResRel (m ++ t) rs v' ∧ Inv G (m ++ t) h' w') a'.defers .returning w' := by
    intro q hq hk
    cases q with
    | none => cases hk
    | some vs1 =>
      rw [he'.dfr]
      refine leaves_marks hgh (fun w2 hi2 => ?_) G2.dfs w' (hsub.inv hi') G2.nd fun d hd => ?_
      · obtain ⟨xs1, h1, h2⟩ := results_of (fn := fn) hi2 he' hq
        refine ⟨_, h2, ?_⟩
        simp only [normF_eq] at hk
        obtain ⟨rs, h3, m3, q1, q2, q3, q4, q5⟩ := normVs_sound hi2 hp.1 (by rw [hgh]; intro x hx; cases hx) h1 hk
        have hpre : m3 = m ++ m3.drop n0 := by
          apply List.ext_getElem?
          intro i
          by_cases hlt : i < n0
          · rw [List.getElem?_append_left (by omega), q5 i hlt, hp.2 i hlt]
          · rw [List.getElem?_append_right (by omega), List.getElem?_drop, hlen]
            congr 1; omega
        refine ⟨rs, h3, q1, _, m3.drop n0, rfl, ?_, ?_⟩
        · rw [← hpre]; exact resRel_of q3
        · rw [← hpre]; exact q2
      · obtain ⟨D, rfl, hD, hO⟩ := G2.hd d hd
        refine ⟨D, rfl, ?_, ?_⟩
        · rw [hi'.frame D (Array.getElem?_eq_some_iff.1 hD).1 hO]; exact hD
        · rcases hsub.dfs _ hd with h0 | ⟨D', h0, h1⟩
          · rw [hgd] at h0; cases h0
          · injection h0 with h0 _
            injection h0 with h0
            rw [h0]; exact h1
  cases e with
  | normal => exact fin rfl hK
  | ret => exact fin rfl hK
  | exit i => cases hK
  | goto i => cases hK

end
end Go.Proofs.YtlgopekjjkdkiaaDoor.Ev
end

section
/- The evaluator is sound, seventeenth part: shapes; summaries that are given by typed functions. -/
namespace Go.Proofs.YtlgopekjjkdkiaaDoor.Ev
open Go
set_option linter.unusedVariables false
set_option linter.unusedSimpArgs false
set_option linter.unusedSectionVars false
variable [FZ]

inductive SL where
  | top
  | int (k : IntKind)
  | bool
  | str
  | nilp
  | nils (k : Option EK)
  | ptr (id off : Nat)
  | pix (id off o2 : Nat)
  | full (id : Nat)
  | slice (id off : Nat)
  | sliceC (id off : Nat)
  | seq (k : EK) (n : Nat)
  | fn (f : Nat)
  | sl (q : SK)
  | clo (f : Nat) (ids : List Nat)
  | yld (id : Nat)
  | nilf

@[reducible] def SL.den : SL → Type
  | .int _ => Int
  | .bool => Bool
  | .str => ByteArray
  | .pix _ _ _ => Nat
  | .slice _ _ => Nat × Nat
  | .sliceC _ _ => Nat × Nat × Nat
  | .seq k _ => List k.den
  | .sl q => Sl q
  | _ => Unit

def SL.enc : (s : SL) → s.den → LV
  | .top, _ => .top
  | .int k, n => .int k n
  | .bool, b => .bool b
  | .str, s => .str s
  | .nilp, _ => .nilp
  | .nils k, _ => .nils k
  | .ptr id off, _ => .ptr id off
  | .pix id off o2, i => .pix id off i o2
  | .full id, _ => .full id
  | .slice id off, d => .slice id off d.1 d.2 none
  | .sliceC id off, d => .slice id off d.1 d.2.1 (some d.2.2)
  | .seq k n, l => .seq k n l
  | .fn f, _ => .fn f
  | .sl q, x => .sl q x
  | .clo f ids, _ => .clo f ids
  | .yld id, _ => .yld id
  | .nilf, _ => .nilf

def SL.dec : (s : SL) → LV → Option s.den
  | .top, x => match x with | .top => some () | _ => none
  | .int k, x => match x with | .int k' n => if k' = k then some n else none | _ => none
  | .bool, x => match x with | .bool b => some b | _ => none
  | .str, x => match x with | .str s => some s | _ => none
  | .nilp, x => match x with | .nilp => some () | _ => none
  | .nils k, x => match x with | .nils k' => if k' = k then some () else none | _ => none
  | .ptr id off, x => match x with | .ptr id' off' => if id' = id ∧ off' = off then some () else none | _ => none
  | .pix id off o2, x => match x with | .pix id' off' i o2' => if id' = id ∧ off' = off ∧ o2' = o2 then some i else none | _ => none
  | .full id, x => match x with | .full id' => if id' = id then some () else none | _ => none
  | .slice id off, x => match x with | .slice id' off' lo len none => if id' = id ∧ off' = off then some (lo, len) else none | _ => none
  | .sliceC id off, x => match x with | .slice id' off' lo len (some c) => if id' = id ∧ off' = off then some (lo, len, c) else none | _ => none
  | .seq k n, x => match x with | .seq k' n' l => if h : k' = k then (if n' = n then some (castL h l) else none) else none | _ => none
  | .fn f, x => match x with | .fn f' => if f' = f then some () else none | _ => none
  | .sl q, x => match x with | .sl q' y => if h : q' = q then some (castS h y) else none | _ => none
  | .clo f ids, x => match x with | .clo f' ids' => if f' = f ∧ ids' = ids then some () else none | _ => none
  | .yld id, x => match x with | .yld id' => if id' = id then some () else none | _ => none
  | .nilf, x => match x with | .nilf => some () | _ => none

theorem SL.dec_enc : ∀ (s : SL) (x : LV) (d : s.den), s.dec x = some d → x = s.enc d := by
  intro s x d h
  cases s <;> simp only [SL.dec] at h
  case top => split at h <;> first | rfl | cases h
  case int k =>
    split at h
    · rename_i k' n
      split at h
      · rename_i hk; subst hk; cases h; rfl
      · cases h
    · cases h
  case bool => split at h <;> first | (cases h; rfl) | cases h
  case str => split at h <;> first | (cases h; rfl) | cases h
  case nilp => split at h <;> first | rfl | cases h
  case nils k =>
    split at h
    · split at h
      · rename_i hk; subst hk; rfl
      · cases h
    · cases h
  case ptr id off =>
    split at h
    · split at h
      · rename_i hk; obtain ⟨rfl, rfl⟩ := hk; rfl
      · cases h
    · cases h
  case pix id off o2 =>
    split at h
    · split at h
      · rename_i hk; obtain ⟨rfl, rfl, rfl⟩ := hk; cases h; rfl
      · cases h
    · cases h
  case full id =>
    split at h
    · split at h
      · rename_i hk; subst hk; rfl
      · cases h
    · cases h
  case fn f =>
    split at h
    · split at h
      · rename_i hk; subst hk; rfl
      · cases h
    · cases h
  case sl q =>
    split at h
    · split at h
      · rename_i hk; subst hk; cases h; rfl
      · cases h
    · cases h
  case clo f ids =>
    split at h
    · split at h
      · rename_i hk; obtain ⟨rfl, rfl⟩ := hk; rfl
      · cases h
    · cases h
  case yld id =>
    split at h
    · split at h
      · rename_i hk; subst hk; rfl
      · cases h
    · cases h
  case nilf => split at h <;> first | rfl | cases h
  case slice id off =>
    split at h
    · split at h
      · rename_i hk; obtain ⟨rfl, rfl⟩ := hk; cases h; rfl
      · cases h
    · cases h
  case sliceC id off =>
    split at h
    · split at h
      · rename_i hk; obtain ⟨rfl, rfl⟩ := hk; cases h; rfl
      · cases h
    · cases h
  case seq k n =>
    split at h
    · split at h
      · rename_i hk
        subst hk
        split at h
        · rename_i hn; subst hn; cases h; rfl
        · cases h
      · cases h
    · cases h

@[reducible] def denL : List SL → Type
  | [] => Unit
  | s :: r => s.den × denL r

def encL : (l : List SL) → denL l → List LV
  | [], _ => []
  | s :: r, d => s.enc d.1 :: encL r d.2

def decL : (l : List SL) → List LV → Option (denL l)
  | [], x => match x with | [] => some () | _ => none
  | s :: r, x => match x with
    | y :: q => match s.dec y, decL r q with
      | some a, some b => some (a, b)
      | _, _ => none
    | [] => none

theorem decL_enc : ∀ (l : List SL) (x : List LV) (d : denL l), decL l x = some d → x = encL l d
  | [], x, d, h => by
    simp only [decL] at h
    split at h
    · rfl
    · cases h
  | s :: r, x, d, h => by
    simp only [decL] at h
    split at h
    · split at h
      · rename_i ha hb
        cases h
        rw [SL.dec_enc _ _ _ ha, decL_enc _ _ _ hb]; rfl
      · cases h
    · cases h

inductive ST where
  | lf (s : SL)
  | agg (l : List SL)

@[reducible] def ST.den : ST → Type
  | .lf s => s.den
  | .agg l => denL l

def ST.enc : (s : ST) → s.den → TV
  | .lf s, d => .lf (s.enc d)
  | .agg l, d => .agg (encL l d)

def ST.dec : (s : ST) → TV → Option s.den
  | .lf s, x => match x with | .lf y => s.dec y | _ => none
  | .agg l, x => match x with | .agg y => decL l y | _ => none

theorem ST.dec_enc : ∀ (s : ST) (x : TV) (d : s.den), s.dec x = some d → x = s.enc d
  | .lf s, x, d, h => by
    simp only [ST.dec] at h
    split at h
    · rw [SL.dec_enc _ _ _ h]; rfl
    · cases h
  | .agg l, x, d, h => by
    simp only [ST.dec] at h
    split at h
    · rw [decL_enc _ _ _ h]; rfl
    · cases h

@[reducible] def denT : List ST → Type
  | [] => Unit
  | s :: r => s.den × denT r

def encT : (l : List ST) → denT l → List TV
  | [], _ => []
  | s :: r, d => s.enc d.1 :: encT r d.2

def decT : (l : List ST) → List TV → Option (denT l)
  | [], x => match x with | [] => some () | _ => none
  | s :: r, x => match x with
    | y :: q => match s.dec y, decT r q with
      | some a, some b => some (a, b)
      | _, _ => none
    | [] => none

theorem decT_enc : ∀ (l : List ST) (x : List TV) (d : denT l), decT l x = some d → x = encT l d
  | [], x, d, h => by
    simp only [decT] at h
    split at h
    · rfl
    · cases h
  | s :: r, x, d, h => by
    simp only [decT] at h
    split at h
    · split at h
      · rename_i ha hb
        cases h
        rw [ST.dec_enc _ _ _ ha, decT_enc _ _ _ hb]; rfl
      · cases h
    · cases h

/-- An object: is it lent for reading (none: either), and its entries. -/
structure SO where
  ro : Option Bool
  es : List SL

@[reducible] def denRo : Option Bool → Type
  | none => Bool
  | some _ => Unit

def encRo : (o : Option Bool) → denRo o → Bool
  | none, b => b
  | some b, _ => b

def decRo : (o : Option Bool) → Bool → Option (denRo o)
  | none, b => some b
  | some true, b => match b with | true => some () | false => none
  | some false, b => match b with | true => none | false => some ()

theorem decRo_enc : ∀ (o : Option Bool) (x : Bool) (d : denRo o), decRo o x = some d → x = encRo o d
  | none, x, d, h => by cases h; rfl
  | some true, x, d, h => by cases x <;> first | rfl | (simp [decRo] at h)
  | some false, x, d, h => by cases x <;> first | rfl | (simp [decRo] at h)

@[reducible] def denH : List (Option SO) → Type
  | [] => Unit
  | none :: r => Unit × denH r
  | some o :: r => (denRo o.ro × denL o.es) × denH r

def encH : (l : List (Option SO)) → denH l → Heap
  | [], _ => []
  | none :: r, d => none :: encH r d.2
  | some o :: r, d => some ⟨encRo o.ro d.1.1, encL o.es d.1.2⟩ :: encH r d.2

def decH : (l : List (Option SO)) → Heap → Option (denH l)
  | [], x => match x with | [] => some () | _ => none
  | none :: r, x => match x with
    | none :: q => match decH r q with
      | some b => some ((), b)
      | none => none
    | _ => none
  | some o :: r, x => match x with
    | some y :: q => match decRo o.ro y.ro, decL o.es y.es, decH r q with
      | some a, some b, some c => some ((a, b), c)
      | _, _, _ => none
    | _ => none

theorem decH_enc : ∀ (l : List (Option SO)) (x : Heap) (d : denH l), decH l x = some d → x = encH l d
  | [], x, d, h => by
    simp only [decH] at h
    split at h
    · rfl
    · cases h
  | none :: r, x, d, h => by
    simp only [decH] at h
    split at h
    · split at h
      · rename_i hb
        cases h
        rw [decH_enc _ _ _ hb]; rfl
      · cases h
    · cases h
  | some o :: r, x, d, h => by
    simp only [decH] at h
    split at h
    · split at h
      · rename_i ha hb hc
        cases h
        rw [decH_enc _ _ _ hc]
        have h1 := decRo_enc _ _ _ ha
        have h2 := decL_enc _ _ _ hb
        simp only [encH, ← h1, ← h2]
      · cases h
    · cases h

structure Sh where
  vs : List ST
  h : List (Option SO)

@[reducible] def Sh.den (s : Sh) : Type := denT s.vs × denH s.h

theorem encH_length : ∀ (l : List (Option SO)) (d : denH l), (encH l d).length = l.length
  | [], _ => rfl
  | none :: r, d => by simp [encH, encH_length r]
  | some o :: r, d => by simp [encH, encH_length r]

abbrev KF := List TV → Heap → Option Res
abbrev KL := Xt → List AV → Heap → Option Res

/-- A summary that is given by a typed function at a shape; elsewhere by another one. -/
def mkS (s : Sh) (l : s.den → KF → Option Res) (other : Summ) : Summ := fun vs h K =>
  match decT s.vs vs, decH s.h h with
  | some a, some b => l (a, b) K
  | _, _ => other vs h K

def noS : Summ := fun _ _ _ => none

def mkG (s : Sh) (live : List Nat) (out : Xt → List Nat) (l : s.den → KL → Option Res) (mv : List Nat := []) : LoopS where
  mv := mv
  live := live
  out := out
  run := fun vs h K => match decT s.vs vs, decH s.h h with
    | some a, some b => l (a, b) K
    | _, _ => none

/-- A loop that is entered in another shape, too. -/
def orG (s : Sh) (l : s.den → KL → Option Res) (S : LoopS) : LoopS where
  mv := S.mv
  live := S.live
  out := S.out
  run := fun vs h K => match decT s.vs vs, decH s.h h with
    | some a, some b => l (a, b) K
    | _, _ => S.run vs h K

section
variable {P : Program} {T : FuncId → Option Summ} {X : Xtra} {nt n0 : Nat} {LT : Nat → Option LoopS}

theorem mkG_run {s : Sh} {live : List Nat} {out : Xt → List Nat} {l : s.den → KL → Option Res} {mv : List Nat} {vs : List TV} {h : Heap} {K : KL} {r : Res} (he : (mkG s live out l mv).run vs h K = some r) :
    ∃ d : s.den, vs = encT s.vs d.1 ∧ h = encH s.h d.2 ∧ l d K = some r := by
  change (match decT s.vs vs, decH s.h h with | some a, some b => l (a, b) K | _, _ => none) = some r at he
  split at he
  · rename_i a b ha hb
    exact ⟨(a, b), decT_enc _ _ _ ha, decH_enc _ _ _ hb, he⟩
  · cases he

theorem loopOK_of {mv : List Nat} {s : Sh} {live : List Nat} {out : Xt → List Nat} {b : Code} (l : Nat → s.den → KL → Option Res) (F : Nat) (h0 : ∀ d K, l 0 d K = none)
    (hs : ∀ k d K, l (k + 1) d K = roundOf P T X nt n0 LT (mkG s live out (l k) mv) b (encT s.vs d.1) (encH s.h d.2) K) :
    LoopOK P T X nt n0 LT (mkG s live out (l F) mv) b := by
  refine ⟨fun k => mkG s live out (l k) mv, fun k => ⟨rfl, rfl⟩, fun vs h K r he => ⟨F, he⟩, fun vs h K => ?_, fun k vs h K r he => ?_⟩
  · cases hq : (mkG s live out (l 0) mv).run vs h K with
    | none => rfl
    | some r =>
      obtain ⟨d, _, _, h3⟩ := mkG_run hq
      rw [h0] at h3; cases h3
  · obtain ⟨d, rfl, rfl, h3⟩ := mkG_run he
    rw [hs] at h3
    exact h3

theorem orG_run {s : Sh} {l : s.den → KL → Option Res} {S : LoopS} {vs : List TV} {h : Heap} {K : KL} {r : Res} (he : (orG s l S).run vs h K = some r) :
    (∃ d : s.den, vs = encT s.vs d.1 ∧ h = encH s.h d.2 ∧ l d K = some r) ∨ S.run vs h K = some r := by
  change (match decT s.vs vs, decH s.h h with | some a, some b => l (a, b) K | _, _ => S.run vs h K) = some r at he
  split at he
  · rename_i a b ha hb
    exact .inl ⟨(a, b), decT_enc _ _ _ ha, decH_enc _ _ _ hb, he⟩
  · exact .inr he

/-- One of the shapes in which a loop is entered: nothing at first; then a round more each. -/
structure VerOK (P : Program) (T : FuncId → Option Summ) (X : Xtra) (nt n0 : Nat) (LT : Nat → Option LoopS) (b : Code) (all g : Nat → LoopS) : Prop where
  zero : ∀ vs h K, (g 0).run vs h K = none
  succ : ∀ k vs h K r, (g (k + 1)).run vs h K = some r → roundOf P T X nt n0 LT (all k) b vs h K = some r

theorem verOK_last {mv : List Nat} {s : Sh} {live : List Nat} {out : Xt → List Nat} {b : Code} {all : Nat → LoopS} (l : Nat → s.den → KL → Option Res) (h0 : ∀ d K, l 0 d K = none)
    (hs : ∀ k d K, l (k + 1) d K = roundOf P T X nt n0 LT (all k) b (encT s.vs d.1) (encH s.h d.2) K) : VerOK P T X nt n0 LT b all (fun k => mkG s live out (l k) mv) := by
  refine ⟨fun vs h K => ?_, fun k vs h K r he => ?_⟩
  · cases hq : (mkG s live out (l 0) mv).run vs h K with
    | none => rfl
    | some r =>
      obtain ⟨d, _, _, h3⟩ := mkG_run hq
      rw [h0] at h3; cases h3
  · obtain ⟨d, rfl, rfl, h3⟩ := mkG_run he
    rw [hs] at h3
    exact h3

theorem verOK_cons {s : Sh} {b : Code} {all g : Nat → LoopS} (l : Nat → s.den → KL → Option Res) (h0 : ∀ d K, l 0 d K = none)
    (hs : ∀ k d K, l (k + 1) d K = roundOf P T X nt n0 LT (all k) b (encT s.vs d.1) (encH s.h d.2) K) (hg : VerOK P T X nt n0 LT b all g) : VerOK P T X nt n0 LT b all (fun k => orG s (l k) (g k)) := by
  refine ⟨fun vs h K => ?_, fun k vs h K r he => ?_⟩
  · cases hq : (orG s (l 0) (g 0)).run vs h K with
    | none => rfl
    | some r =>
      rcases orG_run hq with ⟨d, _, _, h3⟩ | h3
      · rw [h0] at h3; cases h3
      · rw [hg.zero] at h3; cases h3
  · rcases orG_run he with ⟨d, rfl, rfl, h3⟩ | h3
    · rw [hs] at h3
      exact h3
    · exact hg.succ k vs h K r h3

theorem loopOK_vers {b : Code} (all : Nat → LoopS) (F : Nat) (hl : ∀ k, (all k).live = (all F).live ∧ (all k).out = (all F).out) (h : VerOK P T X nt n0 LT b all all) : LoopOK P T X nt n0 LT (all F) b :=
  ⟨all, hl, fun vs h K r he => ⟨F, he⟩, h.zero, h.succ⟩

theorem loopsOK_nil : LoopsOK P T X nt n0 LT [] := fun b hb => by cases hb
theorem loopsOK_cons {b : Code} {l : List Code} {S : LoopS} (hS : LT (firstRegion b) = some S) (h : LoopOK P T X nt n0 LT S b) (hl : LoopsOK P T X nt n0 LT l) : LoopsOK P T X nt n0 LT (b :: l) := by
  intro c hc S' hS'
  rcases List.mem_cons.1 hc with rfl | hc
  · rw [hS] at hS'; cases hS'; exact h
  · exact hl c hc S' hS'
/-- A loop that is not reached. -/
theorem loopsOK_skip {b : Code} {l : List Code} (hS : LT (firstRegion b) = none) (hl : LoopsOK P T X nt n0 LT l) : LoopsOK P T X nt n0 LT (b :: l) := by
  intro c hc S' hS'
  rcases List.mem_cons.1 hc with rfl | hc
  · rw [hS] at hS'; cases hS'
  · exact hl c hc S' hS'

/-- What is done at a body's end. -/
noncomputable def endK (P : Program) (n0 : Nat) (rv : List ResultVar) (K : List TV → Heap → Option Res) : Xt → Env → Heap → Option Res := fun e env h' => match e with
  | .normal => (match resVals P env h' rv with
    | some vs => normF n0 [] vs h' K
    | none => none)
  | .ret => (match resVals P env h' rv with
    | some vs => normF n0 [] vs h' K
    | none => none)
  | _ => none

theorem rangesOK_nil : RangesOK P X nt n0 LT [] := fun b hb => by cases hb
theorem rangesOK_cons {g : Operand} {ps : Array Tmp} {x y : Code} {l : List Code} {S : LoopS} (hS : LT (rkey (firstRegion x)) = some S) (h : RangeOK P X nt n0 S (.rangeFunc g ps x y)) (hl : RangesOK P X nt n0 LT l) : RangesOK P X nt n0 LT (.rangeFunc g ps x y :: l) := by
  intro c hc g' ps' x' y' he S' hS'
  rcases List.mem_cons.1 hc with rfl | hc
  · cases he
    rw [hS] at hS'; cases hS'; exact h
  · exact hl c hc g' ps' x' y' he S' hS'
/-- A range that is not reached. -/
theorem rangesOK_skip {g : Operand} {ps : Array Tmp} {x y : Code} {l : List Code} (hS : LT (rkey (firstRegion x)) = none) (hl : RangesOK P X nt n0 LT l) : RangesOK P X nt n0 LT (.rangeFunc g ps x y :: l) := by
  intro c hc g' ps' x' y' he S' hS'
  rcases List.mem_cons.1 hc with rfl | hc
  · cases he
    rw [hS] at hS'; cases hS'
  · exact hl c hc g' ps' x' y' he S' hS'

theorem scopesOK_nil : ScopesOK P T X nt n0 LT [] := fun b hb => by cases hb
theorem scopesOK_cons {b : Code} {l : List Code} {i : Nat} {S : LoopS} (hi : labelIn b = some i) (hS : LT (lkey i) = some S) (h : LabelOK P T X nt n0 LT S i b) (hl : ScopesOK P T X nt n0 LT l) : ScopesOK P T X nt n0 LT (b :: l) := by
  intro c hc j S' hj hS'
  rcases List.mem_cons.1 hc with rfl | hc
  · rw [hi] at hj; cases hj
    rw [hS] at hS'; cases hS'; exact h
  · exact hl c hc j S' hj hS'
/-- A scope in which nothing jumps. -/
theorem scopesOK_skip {b : Code} {l : List Code} (hS : ∀ i, labelIn b = some i → LT (lkey i) = none) (hl : ScopesOK P T X nt n0 LT l) : ScopesOK P T X nt n0 LT (b :: l) := by
  intro c hc j S' hj hS'
  rcases List.mem_cons.1 hc with rfl | hc
  · rw [hS j hj] at hS'; cases hS'
  · exact hl c hc j S' hj hS'

theorem labelOK_of (hX : X.rd = false) (hm : P.follows .mixedOrders = true) (hT : SoundT P T) {mv : List Nat} {s : Sh} {live : List Nat} {out : Xt → List Nat} {b rest : Code} {i : Nat} (l : Nat → s.den → KL → Option Res) (F : Nat)
    (hf : findLabel b i = some rest) (h0 : ∀ d K, l 0 d K = none)
    (hs : ∀ k d K, l (k + 1) d K = passOf P T X nt n0 LT (mkG s live out (l k) mv) i rest (encT s.vs d.1) (encH s.h d.2) K)
    (hl : LoopsOK P T X nt n0 LT (loopsOf rest)) (hc : ScopesOK P T X nt n0 LT (scopesOf rest)) (hr : RangesOK P X nt n0 LT (rangesOf rest)) :
    LabelOK P T X nt n0 LT (mkG s live out (l F) mv) i b := by
  refine ⟨fun k => mkG s live out (l k) mv, rest, hf, fun k => ⟨rfl, rfl⟩, fun vs h K r he => ⟨F, he⟩, fun vs h K => ?_, fun k vs h K r he => ?_, fun h1 h2 h3 h4 h5 h6 => wpIn_wide.1 (evC_wp (ro := none) (n := 0) (fun _ => rfl) (fun _ => rfl) hm hT rest hl hc hr h1 h2 h3 h4 h5 h6)⟩
  · cases hq : (mkG s live out (l 0) mv).run vs h K with
    | none => rfl
    | some r =>
      obtain ⟨d, _, _, h3⟩ := mkG_run hq
      rw [h0] at h3; cases h3
  · obtain ⟨d, rfl, rfl, h3⟩ := mkG_run he
    rw [hs] at h3
    exact h3

theorem noS_sound {f : FuncId} (he : ∀ args w, (callFunc f args).run P w = .ok (.enter f args) w) : SoundFn P f noS := ⟨he, fun vs h K r hev => by cases hev⟩

theorem enter_of {f : FuncId} {fn : Func} (hf : P.funcs[f]? = some fn) (hname : (fn.name == "runtime.NumGoroutine") = false) (hb : fn.body.isSome = true) (args : Array Value) (w : World) :
    (callFunc f args).run P w = .ok (.enter f args) w := by
  obtain ⟨c, hc⟩ := Option.isSome_iff_exists.1 hb
  have h1 : fn.name ≠ "runtime.NumGoroutine" := by simpa using hname
  simp [callFunc, hf, h1, hc]

theorem soundFn_of (hX : X.rd = false) (hXy : X.y = none) (hm : P.follows .mixedOrders = true) (hT : SoundT P T) {f : FuncId} {fn : Func} {c : Code} (hf : P.funcs[f]? = some fn) (hb : fn.body = some c) {mv : List Nat} {s : Sh} {l : s.den → KF → Option Res} {other : Summ}
    (ho : SoundFn P f other) (hl : LoopsOK P T X fn.ntmps s.h.length LT (loopsOf c)) (hsc : ScopesOK P T X fn.ntmps s.h.length LT (scopesOf c)) (hrg : RangesOK P X fn.ntmps s.h.length LT (rangesOf c))
    (hev : ∀ d K, evBody P T X fn.ntmps s.h.length LT mv c fn.results.toList (encT s.vs d.1) (encH s.h d.2) K = l d K) : SoundFn P f (mkS s l other) := by
  refine ⟨ho.enter, fun vs h K r he => ?_⟩
  unfold mkS at he
  split at he
  · rename_i a b ha hb'
    have h1 := decT_enc _ _ _ ha
    have h2 := decH_enc _ _ _ hb'
    subst h1
    subst h2
    rw [← hev] at he
    intro G m w cvs hw hgd hgh hi hx
    exact evBody_sound hX hXy hm hT hf hb hl hsc hrg (encH_length _ _) he hgd hgh hi hx
  · exact ho.ok vs h K r he

theorem soundT_of {T : FuncId → Option Summ} (h : ∀ f S, T f = some S → SoundFn P f S) : SoundT P T := h

/-! ### Tables; the parts of code -/

/-- No round, no yield; some drawn regions whose calls may write. -/
abbrev xw (l : List Nat) : Xtra := ⟨l, false, none⟩

def tab : List (Nat × Summ) → FuncId → Option Summ
  | [], _ => none
  | (g, S) :: r, f => if f = g then some S else tab r f

theorem tab_nil : SoundT P (tab []) := fun f S h => by cases h
theorem tab_cons {g : Nat} {S : Summ} {r : List (Nat × Summ)} (h : SoundFn P g S) (hr : SoundT P (tab r)) : SoundT P (tab ((g, S) :: r)) := fun f S' h' => by
  simp only [tab] at h'
  split at h'
  · rename_i hf; subst hf; cases h'; exact h
  · exact hr f S' h'

def outT : List (Xt × List Nat) → Xt → List Nat
  | [], _ => []
  | (e, l) :: r, x => if x = e then l else outT r x

def ltab : List (Nat × LoopS) → Nat → Option LoopS
  | [], _ => none
  | (g, S) :: r, f => if f = g then some S else ltab r f

def cL : Code → Code
  | .seq a _ => a
  | c => c
def cR : Code → Code
  | .seq _ b => b
  | c => c
def cT : Code → Code
  | .cond _ a _ => a
  | c => c
def cE : Code → Code
  | .cond _ _ b => b
  | c => c
def cB : Code → Code
  | .block _ a => a
  | .loop a => a
  | .scope a => a
  | c => c
def bodyOf (f : Func) : Code := match f.body with | some c => c | none => .skip

def iand (k : IntKind) (x y : Int) : Int := k.wrap (BitVec.ofInt k.bits x &&& BitVec.ofInt k.bits y).toNat
def ior (k : IntKind) (x y : Int) : Int := k.wrap (BitVec.ofInt k.bits x ||| BitVec.ofInt k.bits y).toNat
def ixor (k : IntKind) (x y : Int) : Int := k.wrap (BitVec.ofInt k.bits x ^^^ BitVec.ofInt k.bits y).toNat
def iandn (k : IntKind) (x y : Int) : Int := k.wrap (BitVec.ofInt k.bits x &&& ~~~ BitVec.ofInt k.bits y).toNat
def ishl (k : IntKind) (x y : Int) : Int := k.wrap (x * 2 ^ (min y.toNat k.bits))
def ishr (k : IntKind) (x y : Int) : Int := x.fdiv (2 ^ (min y.toNat k.bits))

/-! ### A row -/

def isTrueK : KF := fun rs _ => match rs with
  | [.lf (.bool b)] => cond b (some ([], [])) none
  | _ => none

theorem row_true {f : FuncId} {S : Summ} (hs : SoundFn P f S) {vs : List TV} {h : Heap} (he : S vs h isTrueK = some ([], [])) {m : GM} {w : World} {cvs : List Value} (hi : Inv (Ctx.of w fun _ => False) m h w) (hx : TVs m vs cvs) :
    Calls P f cvs.toArray w fun e w' => e = .returned (.bool true) ∧ Ext w w' := by
  refine (hs.ok vs h _ _ he (Ctx.of w fun _ => False) m w cvs rfl rfl rfl hi hx).mono ?_
  rintro e w' ⟨rs, h', hK, v, t, rfl, hr, hi'⟩
  refine ⟨?_, hi'.str, hi'.size, fun b hb => hi'.frame b hb (fun h => h)⟩
  unfold isTrueK at hK
  split at hK
  · rename_i b
    cases b with
    | false => cases hK
    | true =>
      have : v = .bool true := hr
      rw [this]
  · cases hK

end
end Go.Proofs.YtlgopekjjkdkiaaDoor.Ev
end

section
/- The evaluator is sound, last part: ranges over functions. -/
namespace Go.Proofs.YtlgopekjjkdkiaaDoor.Ev
open Go
set_option linter.unusedVariables false
set_option linter.unusedSimpArgs false
set_option linter.unusedSectionVars false
variable [FZ]

variable {P : Program}

section
variable {G : Ctx} {m : GM} {h : Heap} {w w' : World}

/-- The same care, with ghosts, for another activation. -/
def Ctx.withGh (G : Ctx) (gl : List (Nat × Nat × Obj)) : Ctx := ⟨G.w0, G.O, G.R, [], fun d h => (by cases h), .nil, gl⟩

theorem Inv.toGh (hi : Inv G m h w) {gl : List (Nat × Nat × Obj)} (hg : ∀ x ∈ gl, x.1 < h.length ∧ ∀ ob, hget h x.1 = some ob → w.heap[x.2.1]? = some x.2.2 ∧ x.2.2.isCells = false) : Inv (G.withGh gl) m h w :=
  ⟨hi.len, hi.obs, hi.own, hi.dist, hi.str, hi.size, hi.frame, hi.fz, hg⟩
theorem Inv.ofGh {gl : List (Nat × Nat × Obj)} (hi : Inv (G.withGh gl) m h w) (h0 : G.gh = []) : Inv G m h w :=
  ⟨hi.len, hi.obs, hi.own, hi.dist, hi.str, hi.size, hi.frame, hi.fz, fun x hx => (by rw [h0] at hx; cases hx)⟩

theorem Inv.addNone (hi : Inv G m h w) (g : Gh) : Inv G (m ++ [g]) (h ++ [none]) w := by
  have old : ∀ {j : Nat} {ob : Ob}, hget (h ++ [none]) j = some ob → j < h.length ∧ hget h j = some ob := by
    intro j ob hj
    rcases hget_app hj with h1 | ⟨_, h1⟩
    · exact h1
    · cases h1
  refine ⟨by simp [hi.len], fun j ob gj hj hgj => ?_, fun j ob gj c hj hgj hc => ?_, fun i j oi oj gi gj b c hne h1 h2 h3 h4 h5 h6 h7 h8 => ?_, hi.str, hi.size, hi.frame, hi.fz, fun x hx => ⟨by have := (hi.gh x hx).1; simp; omega, fun ob ho => (hi.gh x hx).2 ob (old ho).2⟩⟩
  · obtain ⟨hl, hj⟩ := old hj
    obtain ⟨hs, cs, hoc, hp⟩ := hi.obs j ob gj hj (gm_app_old (by rw [hi.len]; exact hl) hgj)
    exact ⟨hs, cs, hoc.mono (pre_append m _), hp⟩
  · obtain ⟨hl, hj⟩ := old hj
    exact hi.own j ob gj c hj (gm_app_old (by rw [hi.len]; exact hl) hgj) hc
  · obtain ⟨hl1, h1⟩ := old h1
    obtain ⟨hl2, h2⟩ := old h2
    exact hi.dist i j oi oj gi gj b c hne h1 h2 h3 h4 (gm_app_old (by rw [hi.len]; exact hl1) h5) (gm_app_old (by rw [hi.len]; exact hl2) h6) h7 h8

/-- A ghost comes to life. -/
theorem Inv.revive (hi : Inv G m h w) {id : Nat} {g : Gh} (hg : m[id]? = some g) (ha : g.addr = none) (hf : ∀ x ∈ G.gh, x.1 = id → w.heap[x.2.1]? = some x.2.2 ∧ x.2.2.isCells = false) :
    Inv G m (hset h id (some ⟨false, []⟩)) w := by
  refine ⟨by rw [hset_length]; exact hi.len, fun j ob gj hj hgj => ?_, fun j ob gj c hj hgj hc => ?_, fun i j oi oj gi gj b c hne h1 h2 h3 h4 h5 h6 h7 h8 => ?_, hi.str, hi.size, hi.frame, hi.fz, fun x hx => ⟨by rw [hset_length]; exact (hi.gh x hx).1, fun ob ho => ?_⟩⟩
  · rcases hget_hset hj with ⟨rfl, h0⟩ | ⟨_, hj⟩
    · cases h0
      rw [hg] at hgj; cases hgj
      exact ⟨fun off k n l r hd => by cases off <;> simp [dropW] at hd, [], rfl, .inl ⟨rfl, ha⟩⟩
    · exact hi.obs j ob gj hj hgj
  · rcases hget_hset hj with ⟨rfl, h0⟩ | ⟨_, hj⟩
    · rw [hg] at hgj; cases hgj
      rw [ha] at hc; cases hc
    · exact hi.own j ob gj c hj hgj hc
  · rcases hget_hset h1 with ⟨rfl, h0⟩ | ⟨_, h1⟩
    · rw [hg] at h5; cases h5
      rw [ha] at h7; cases h7
    · rcases hget_hset h2 with ⟨rfl, h0⟩ | ⟨_, h2⟩
      · rw [hg] at h6; cases h6
        rw [ha] at h8; cases h8
      · exact hi.dist i j oi oj gi gj b c hne h1 h2 h3 h4 h5 h6 h7 h8
  · rcases hget_hset ho with ⟨he, _⟩ | ⟨_, ho⟩
    · exact hf x hx he
    · exact (hi.gh x hx).2 ob ho

/-- A block turns, and with it the ghosts that tell of it. -/
theorem Inv.flip (hi : Inv G m h w) {l id1 id2 : Nat} {o o2 : Obj} {g : Gh} (hl : w.heap[l]? = some o) (hc : o.isCells = false) (hc2 : o2.isCells = false) (hs : G.w0.heap.size ≤ l)
    (hd : ∀ x ∈ G.gh, x.2.1 = l → x.1 ≠ id1 → hget h x.1 = none) (hg : m[id2]? = some g) (ha : g.addr = none) (hf : ∀ x ∈ G.gh, x.1 = id2 → x.2.1 = l ∧ x.2.2 = o2) :
    Inv G m (hset (hset h id1 none) id2 (some ⟨false, []⟩)) (w.putObj l o2) := by
  have h1 := hi.drop id1
  have h2 := h1.turn (o' := o2) hl hc hs fun x hx he => by
    by_cases h3 : x.1 = id1
    · rw [h3]
      by_cases h4 : id1 < h.length
      · exact hget_hset_same h4
      · cases hq : hget (hset h id1 none) id1 with
        | none => rfl
        | some ob => have := hget_lt hq; rw [hset_length] at this; exact absurd this h4
    · rw [hget_hset_ne (fun e => h3 e.symm)]; exact hd x hx he h3
  refine h2.revive hg ha fun x hx he => ?_
  obtain ⟨q1, q2⟩ := hf x hx he
  rw [q1, q2]
  exact ⟨World.putObj_heap_same (Array.getElem?_eq_some_iff.1 hl).1, hc2⟩

theorem isGhost_iff {x : Option Ob} : isGhost x = true ↔ x = some ⟨false, []⟩ := by
  unfold isGhost
  split
  · simp
  · rename_i hne
    constructor
    · intro h; cases h
    · intro h; exact absurd h hne

theorem isNone_iff {x : Option Ob} : isNone x = true ↔ x = none := by
  cases x <;> simp [isNone]

theorem setAll_rel (hG : G.dfs = []) : ∀ (ps : List Tmp) (vs : List TV) (xs : List Value) (env : Env) (t : Array Value), ERel G m env ⟨t, []⟩ → TVs m vs xs →
    ERel G m (setAll env ps vs) ⟨(ps.zip xs).foldl (fun t (p : Tmp × Value) => t.setIfInBounds p.1 p.2) t, []⟩
  | [], vs, xs, env, t, he, _ => by cases vs <;> exact he
  | p :: ps, [], [], env, t, he, _ => he
  | p :: ps, [], _ :: _, env, t, he, hx => hx.elim
  | p :: ps, v :: vs, [], env, t, he, hx => hx.elim
  | p :: ps, v :: vs, x :: xs, env, t, he, hx => by
    have h1 := he.put (d := some p) (x := .tv v) (v := x) (.inr hx.1)
    exact setAll_rel hG ps vs xs _ _ h1 hx.2

theorem SlotsRel.tmps {m : GM} {a a' : Act} (ha : a'.tmps = a.tmps) : ∀ {ss : List Nat} {vs : List AV}, SlotsRel m a ss vs → SlotsRel m a' ss vs
  | [], vs, _ => by cases vs <;> trivial
  | s :: ss, [], _ => trivial
  | s :: ss, v :: vs, h => ⟨by rw [ha]; exact h.1, SlotsRel.tmps ha h.2⟩

theorem Pre.of_pin {m m' : GM} (hp : Pin m.length m m') : Pre m m' := fun i g hg => by
  rw [hp.2 i (List.getElem?_eq_some_iff.1 hg).1]; exact hg
end

/-- How a jump is told in a loop's record. -/
def jumpCode : Xt → Code
  | .exit i => .exit i
  | .goto l => .goto l
  | _ => .ret

/-- A loop's record. -/
def recOf (fn : FuncId) (t : Array Value) (ps : Array Tmp) (x y : Code) (D : Nat) (st : LoopState) (pe : Option Code) : Loop :=
  { state := st, pending := pe, fn := fn, tmps := t, params := ps, assign := x, body := y, defers := D }

/-- The ghosts of a loop. -/
def ghOfLoop (n1 l D : Nat) (rec : LoopState → Option Code → Loop) (jump : Xt) : List (Nat × Nat × Obj) :=
  [(n1, l, .loop (rec .ready none)), (n1 + 1, l, .loop (rec .busy none)), (n1 + 2, l, .loop (rec .done (some (jumpCode jump)))), (n1 + 3, D, .deferred (some []))]

section
variable {T : FuncId → Option Summ} {X : Xtra} {nt n0 : Nat} {LT : Nat → Option LoopS}

def noLT : Nat → Option LoopS := fun _ => none

theorem loopsOK_none {X : Xtra} (l : List Code) : LoopsOK P T X nt n0 noLT l := fun b _ S h => by cases h
theorem scopesOK_none {X : Xtra} (l : List Code) : ScopesOK P T X nt n0 noLT l := fun b _ i S _ h => by cases h
theorem rangesOK_none {X : Xtra} (l : List Code) : RangesOK P X nt n0 noLT l := fun b _ g ps x y _ S h => by cases h

/-- What a call of yield comes to. -/
theorem yield_ok (hm : P.follows .mixedOrders = true) (hT : SoundT P T) {G : Ctx} {m0 : GM} {n1 l D fn : Nat} {t : Array Value} {ps : Array Tmp} {x y : Code} {wr wrI : List Nat} {jump : Xt} {env : Env}
    (he : ERel (G.withGh (ghOfLoop n1 l D (recOf fn t ps x y D) jump)) m0 env ⟨t, []⟩) (hlen : m0.length = n1 + 4) (hDl : D ≠ l) (hs : G.w0.heap.size ≤ l)
    (h0 : ∃ g o, m0[n1]? = some g ∧ g.blk = some (l, o) ∧ g.addr = none) (h1 : ∃ g, m0[n1 + 1]? = some g ∧ g.addr = none) (h2 : ∃ g, m0[n1 + 2]? = some g ∧ g.addr = none) :
    YOK P (G.withGh (ghOfLoop n1 l D (recOf fn t ps x y D) jump)) m0 (n1 + 4) ⟨wrI, false, some (yieldOf P T wr nt noLT env ps.toList x y jump n1)⟩ := by
  intro y0 hy m h w args xs l' Kc r hn0 hpin hi hx hrel hrun n
  cases hy
  have hpre0 : Pre m0 m := fun i g hg => by
    have := (List.getElem?_eq_some_iff.1 hg).1
    rw [hpin i (by omega)]; exact hg
  obtain ⟨g0, o0, hg0, hb0, ha0⟩ := h0
  obtain ⟨g1, hg1, ha1⟩ := h1
  obtain ⟨g2, hg2, ha2⟩ := h2
  have hll : l' = l := by
    obtain ⟨g, l2, o, q1, q2, q3⟩ := hrel
    have q1' : m[n1]? = some g := q1
    rw [hpre0 _ _ hg0] at q1'
    cases q1'
    rw [hb0] at q2
    cases q2
    injection q3 with q3
    injection q3
  subst hll
  simp only [yieldOf] at hrun
  split at hrun
  · cases hrun
  rename_i hcnd
  simp only [Bool.not_eq_true, Bool.not_eq_false', Bool.and_eq_true, isGhost_iff, isNone_iff, beq_iff_eq] at hcnd
  obtain ⟨⟨⟨c0, c1⟩, c2⟩, c3⟩ := hcnd
  rw [frcN_eq, frcAs_eq] at hrun
  have mem0 : (n1, l', Obj.loop (recOf fn t ps x y D .ready none)) ∈ (G.withGh (ghOfLoop n1 l' D (recOf fn t ps x y D) jump)).gh := by simp [Ctx.withGh, ghOfLoop]
  have mem1 : (n1 + 1, l', Obj.loop (recOf fn t ps x y D .busy none)) ∈ (G.withGh (ghOfLoop n1 l' D (recOf fn t ps x y D) jump)).gh := by simp [Ctx.withGh, ghOfLoop]
  obtain ⟨hready, _⟩ := (hi.gh _ mem0).2 _ c0
  have hsz : xs.toArray.size = (recOf fn t ps x y D .ready none).params.size := by
    have := hx.length_eq
    simp only [recOf]
    rw [← Array.length_toList (xs := ps), ← c3]
    simpa using this.symm
  refine ⟨fn, _, x, y, run_yield hready hsz, roundIn_of_wpIn trivial ?_⟩
  have hgn : ∀ z ∈ (G.withGh (ghOfLoop n1 l' D (recOf fn t ps x y D) jump)).gh, z.1 < h.length := fun z hz => (hi.gh z hz).1
  have hst : ∀ mm : GM, Std P ⟨wr, true, none⟩ h.length mm (G.withGh (ghOfLoop n1 l' D (recOf fn t ps x y D) jump)) := fun mm => ⟨fun y hy => (by cases hy), hgn, fun h => (by cases h)⟩
  have hml : h.length ≤ m.length := Nat.le_of_eq hi.len.symm
  have hact : (⟨((recOf fn t ps x y D .ready none).params.zip xs.toArray).foldl (fun tmps (t, a) => tmps.setIfInBounds t a) (recOf fn t ps x y D .ready none).tmps, []⟩ : Act) =
      ⟨(ps.toList.zip xs).foldl (fun t (p : Tmp × Value) => t.setIfInBounds p.1 p.2) t, []⟩ := by
    simp only [recOf]
    rw [← Array.foldl_toList]
    simp
  rw [hact]
  have he1 := setAll_rel (G := G.withGh (ghOfLoop n1 l' D (recOf fn t ps x y D) jump)) rfl ps.toList args xs env t (he.mono hpre0) hx
  refine evC_wp (ro := some l') (n := n) (m0 := m) (fun h => by cases h) (fun h => by cases h) hm hT x (loopsOK_none _) (scopesOK_none _) (rangesOK_none _) (hst m) (Pin.refl hml) hi he1 hrun ?_
  intro G2 hG2 e env2 h2' m2 a2 w2 hK hi2 hp2 he2
  obtain rfl : G2 = G.withGh (ghOfLoop n1 l' D (recOf fn t ps x y D) jump) := by
    rcases hG2 with h | ⟨h, _⟩
    · exact h
    · cases h
  cases e with
  | exit i => cases hK
  | goto i => cases hK
  | ret => cases hK
  | normal =>
    simp only at hK
    split at hK
    · cases hK
    rename_i hcnd2
    simp only [Bool.not_eq_true, Bool.not_eq_false', Bool.and_eq_true, isGhost_iff, isNone_iff] at hcnd2
    obtain ⟨⟨d0, d1⟩, d2⟩ := hcnd2
    rw [frcH_eq] at hK
    obtain ⟨hready2, _⟩ := (hi2.gh _ mem0).2 _ d0
    refine ⟨_, run_beginRound hready2 rfl, ?_⟩
    have hpre2 : Pre m m2 := Pre.of_pin (by rw [hi.len]; exact hp2)
    have dead : ∀ {hh : Heap}, hget hh (n1 + 1) = none → hget hh (n1 + 2) = none → ∀ z ∈ (G.withGh (ghOfLoop n1 l' D (recOf fn t ps x y D) jump)).gh, z.2.1 = l' → z.1 ≠ n1 → hget hh z.1 = none := by
      intro hh e1 e2 z hz hl hne
      simp only [Ctx.withGh, ghOfLoop, List.mem_cons, List.not_mem_nil, or_false] at hz
      rcases hz with rfl | rfl | rfl | rfl
      · exact absurd rfl hne
      · exact e1
      · exact e2
      · exact absurd hl hDl
    have dead1 : ∀ {hh : Heap}, hget hh n1 = none → hget hh (n1 + 2) = none → ∀ z ∈ (G.withGh (ghOfLoop n1 l' D (recOf fn t ps x y D) jump)).gh, z.2.1 = l' → z.1 ≠ n1 + 1 → hget hh z.1 = none := by
      intro hh e1 e2 z hz hl hne
      simp only [Ctx.withGh, ghOfLoop, List.mem_cons, List.not_mem_nil, or_false] at hz
      rcases hz with rfl | rfl | rfl | rfl
      · exact e1
      · exact absurd rfl hne
      · exact e2
      · exact absurd hl hDl
    have fact : ∀ (k : Nat) (o2 : Obj), (n1 + k, l', o2) ∈ (G.withGh (ghOfLoop n1 l' D (recOf fn t ps x y D) jump)).gh → k < 3 → ∀ z ∈ (G.withGh (ghOfLoop n1 l' D (recOf fn t ps x y D) jump)).gh, z.1 = n1 + k → z.2.1 = l' ∧ z.2.2 = o2 := by
      intro k o2 hk hk3 z hz he
      simp only [Ctx.withGh, ghOfLoop, List.mem_cons, List.not_mem_nil, or_false, Prod.mk.injEq] at hk hz
      rcases hz with rfl | rfl | rfl | rfl <;> simp only at he <;> rcases hk with ⟨k1, _, k3⟩ | ⟨k1, _, k3⟩ | ⟨k1, _, k3⟩ | ⟨k1, k2, k3⟩ <;> first
        | omega
        | exact ⟨rfl, k3.symm⟩
    have hib := hi2.flip (o2 := .loop (recOf fn t ps x y D .busy none)) hready2 rfl rfl hs (dead d1 d2) ((hpre0.trans hpre2) _ _ hg1) ha1 (fact 1 _ mem1 (by omega))
    refine evC_wp (ro := some l') (n := n) (m0 := m2) (fun h => by cases h) (fun h => by cases h) hm hT y (loopsOK_none _) (scopesOK_none _) (rangesOK_none _) (hst m2) (Pin.refl hp2.1) hib he2 hK ?_
    intro G3 hG3 e env3 h3 m3 a3 w3 hK3 hi3 hp3 he3
    obtain rfl : G3 = G.withGh (ghOfLoop n1 l' D (recOf fn t ps x y D) jump) := by
      rcases hG3 with h | ⟨h, _⟩
      · exact h
      · cases h
    simp only at hK3
    split at hK3
    · cases hK3
    rename_i hcnd3
    simp only [Bool.not_eq_true, Bool.not_eq_false', Bool.and_eq_true, isGhost_iff, isNone_iff] at hcnd3
    obtain ⟨⟨f1, f0⟩, f2⟩ := hcnd3
    obtain ⟨hbusy, _⟩ := (hi3.gh _ mem1).2 _ f1
    have hpre3 : Pre m m3 := Pre.of_pin (by rw [hi.len]; exact hp2.trans hp3)
    have hpre03 := hpre0.trans hpre3
    have leave : ∀ {e : Xt}, (if e = jump then frcH (hset (hset h3 (n1 + 1) none) (n1 + 2) (some ⟨false, []⟩)) fun h4 => Kc false h4 else none) = some r →
        ∃ v w', (Instr.endRound l' (some (jumpCode e))).run P w3 = .ok v w' ∧ ∃ b h' m', Ending.returned v = .returned (.bool b) ∧ Kc b h' = some r ∧ Inv (G.withGh (ghOfLoop n1 l' D (recOf fn t ps x y D) jump)) m' h' w' ∧ Pre m m' := by
      intro e hk
      split at hk
      · rename_i hej
        subst hej
        rw [frcH_eq] at hk
        exact ⟨_, _, run_endRound _ hbusy, false, _, m3, rfl, hk, hi3.flip (o2 := .loop (recOf fn t ps x y D .done (some (jumpCode e)))) hbusy rfl rfl hs (dead1 f0 f2) (hpre03 _ _ hg2) ha2 (fact 2 _ (by simp [Ctx.withGh, ghOfLoop]) (by omega)), hpre3⟩
      · cases hk
    cases e with
    | normal =>
      simp only at hK3
      rw [frcH_eq] at hK3
      exact ⟨_, _, run_endRound none hbusy, true, _, m3, rfl, hK3, hi3.flip (o2 := .loop (recOf fn t ps x y D .ready none)) hbusy rfl rfl hs (dead1 f0 f2) (hpre03 _ _ hg0) ha0 (fact 0 _ mem0 (by omega)), hpre3⟩
    | exit i => exact leave hK3
    | goto i => exact leave hK3
    | ret => exact leave hK3

/-- The care begins anew: what is owned now; one more mark among the deferred calls. -/
theorem Inv.rebase {G : Ctx} {m : GM} {h : Heap} {w : World} (hi : Inv G m h w) (hgh : G.gh = []) {D : Nat} (hD : w.heap[D]? = some (.deferred (some []))) (hs : G.w0.heap.size ≤ D) :
    ∃ G2 : Ctx, G2.dfs = { target := .collected D, args := #[] } :: G.dfs ∧ SubR G G2 ∧ Inv G2 m h w := by
  let O : Nat → Prop := fun b => ∃ id ob g c, hget h id = some ob ∧ ob.ro = false ∧ m[id]? = some g ∧ g.addr = some c ∧ c.1 = b
  have cellsO : ∀ b, O b → ∃ blk t fr, w.heap[b]? = some (.cells blk t fr) := by
    rintro b ⟨id, ob, g, c, h1, h2, h3, h4, rfl⟩
    exact hi.cellsAt h1 h3 h4
  have subO : ∀ b, O b → G.O b ∨ G.w0.heap.size ≤ b := by
    rintro b ⟨id, ob, g, c, h1, h2, h3, h4, rfl⟩
    have := hi.own id ob g c h1 h3 h4
    rw [h2] at this
    simpa [Own] using this
  have notO : ∀ {b : Nat} {o : Obj}, w.heap[b]? = some o → o.isCells = false → ¬ O b := by
    intro b o h1 h2 h3
    obtain ⟨blk, t, fr, h4⟩ := cellsO b h3
    rw [h1] at h4
    rw [Option.some.inj h4] at h2
    cases h2
  have hd2 : ∀ d ∈ ({ target := .collected D, args := #[] } : Deferred) :: G.dfs, ∃ D', d = { target := .collected D', args := #[] } ∧ w.heap[D']? = some (.deferred (some [])) ∧ ¬ O D' := by
    intro d hd
    rcases List.mem_cons.1 hd with rfl | hd
    · exact ⟨D, rfl, hD, notO hD rfl⟩
    · obtain ⟨D', rfl, h1, h2⟩ := G.hd d hd
      have h3 : w.heap[D']? = some (.deferred (some [])) := by rw [hi.frame _ (Array.getElem?_eq_some_iff.1 h1).1 h2]; exact h1
      exact ⟨D', rfl, h3, notO h3 rfl⟩
  have hnd2 : (({ target := .collected D, args := #[] } : Deferred) :: G.dfs).Pairwise (· ≠ ·) := by
    refine List.pairwise_cons.2 ⟨fun d hd e => ?_, G.nd⟩
    obtain ⟨D', rfl, h1, _⟩ := G.hd d hd
    injection e with e _
    injection e with e
    have := (Array.getElem?_eq_some_iff.1 h1).1
    omega
  refine ⟨⟨w, O, fun b => ¬ G.O b ∧ b < G.w0.heap.size ∧ G.R b, _, hd2, hnd2, []⟩, rfl, ⟨fun {m' h' w'} i2 => ?_, hgh.symm, fun d hd => ?_, hi.size⟩, ?_⟩
  · refine ⟨i2.len, i2.obs, fun id ob g b h1 h2 h3 => ?_, i2.dist, hi.str.trans i2.str, Nat.le_trans hi.size i2.size, fun b hb hO => ?_, hi.fz, fun x hx => (by rw [hgh] at hx; cases hx)⟩
    · have := i2.own id ob g b h1 h2 h3
      cases hro : ob.ro with
      | false =>
        rw [hro] at this
        simp only [Own, Bool.false_eq_true, if_false] at this ⊢
        rcases this with h4 | h4
        · exact subO _ h4
        · exact .inr (Nat.le_trans hi.size h4)
      | true =>
        rw [hro] at this
        simp only [Own, if_true] at this ⊢
        exact this.2.2
    · have h1 : w'.heap[b]? = w.heap[b]? := i2.frame b (Nat.lt_of_lt_of_le hb hi.size) (fun h2 => by
        rcases subO b h2 with h3 | h3
        · exact hO h3
        · omega)
      rw [h1]; exact hi.frame b hb hO
  · rcases List.mem_cons.1 hd with rfl | hd
    · exact .inr ⟨D, rfl, hs⟩
    · exact .inl hd
  · refine ⟨hi.len, hi.obs, fun id ob g b h1 h2 h3 => ?_, hi.dist, Str.refl w, Nat.le_refl _, fun _ _ _ => rfl, fun a cap cs ok => ?_, fun x hx => (by cases hx)⟩
    · have ho := hi.own id ob g b h1 h2 h3
      cases hro : ob.ro with
      | false =>
        simp only [Own, Bool.false_eq_true, if_false]
        exact .inl ⟨id, ob, g, b, h1, hro, h2, h3, rfl⟩
      | true =>
        rw [hro] at ho
        simp only [Own, if_true] at ho ⊢
        refine ⟨?_, hi.block_lt h1 h2 h3, ho⟩
        rintro ⟨i', o', g', b', q1, q2, q3, q4, q5⟩
        have h5 := hi.own i' o' g' b' q1 q3 q4
        rw [q2] at h5
        simp only [Own, Bool.false_eq_true, if_false] at h5
        rw [q5] at h5
        rcases h5 with h5 | h5
        · exact ho.1 h5
        · omega
    · rcases hi.fz a cap cs ok with hf | ⟨b, blk, t, fr, h1, h2, h3, h4, h5, h6⟩
      · exact .inl hf
      · have hlt := (Array.getElem?_eq_some_iff.1 h2).1
        refine .inr ⟨b, blk, t, fr, h1, by show w.heap[b.1]? = _; rw [hi.frame _ hlt h6]; exact h2, h3, h4, h5, fun h0 => ?_⟩
        rcases subO _ h0 with h7 | h7
        · exact h6 h7
        · omega

theorem hget_ghosts (h : Heap) : hget (h ++ ghosts) h.length = some ⟨false, []⟩ ∧ hget (h ++ ghosts) (h.length + 1) = none ∧ hget (h ++ ghosts) (h.length + 2) = none ∧ hget (h ++ ghosts) (h.length + 3) = some ⟨false, []⟩ := by
  refine ⟨?_, ?_, ?_, ?_⟩ <;> (rw [hget_append_right (by omega)]) <;> simp [ghosts, hget]

/-- A range's summary: what the function that is ranged over does, with rounds where it calls yield. -/
theorem rangeOK_of {jump : Xt} (hj : jump ≠ .normal) (hX : X.rd = false) (hXy : X.y = none) (hm : P.follows .mixedOrders = true) (hT : SoundT P T) {s : Sh} {live : List Nat} {out : Xt → List Nat} (l : s.den → KL → Option Res) {g : Operand} {ps : Array Tmp} {x y : Code}
    (itl : s.den → Nat → Option LoopS) {f : FuncId} {fn : Func} {c : Code} {wrI : List Nat} (henter : ∀ args w, (callFunc f args).run P w = .ok (.enter f args) w) (hf : P.funcs[f]? = some fn) (hb : fn.body = some c) (hres : fn.results = #[])
    (hs : ∀ d K, l d K = rangeOf P T X nt (mkG s live out l) g ps.toList x y ⟨f, c, fn.ntmps, itl d, wrI⟩ noLT jump (encT s.vs d.1) (encH s.h d.2) K)
    (hl : ∀ d, LoopsOK P T ⟨wrI, false, some (yieldOf P T X.wr nt noLT (mkEnv nt live (avsOf (encT s.vs d.1))) ps.toList x y jump s.h.length)⟩ fn.ntmps (s.h.length + 4) (itl d) (loopsOf c))
    (hsc : ∀ d, ScopesOK P T ⟨wrI, false, some (yieldOf P T X.wr nt noLT (mkEnv nt live (avsOf (encT s.vs d.1))) ps.toList x y jump s.h.length)⟩ fn.ntmps (s.h.length + 4) (itl d) (scopesOf c))
    (hrg : rangesOf c = []) : RangeOK P X nt n0 (mkG s live out l) (.rangeFunc g ps x y) := by
  intro G m h w a vs K r Q n hgh hn0 hi hnt hdf hx hrun hq
  obtain ⟨d, rfl, rfl, h3⟩ := mkG_run hrun
  rw [hs] at h3
  have he : ERel G m (mkEnv nt live (avsOf (encT s.vs d.1))) a := mkEnv_rel hnt hdf live _ (avsOf_rel hx)
  unfold rangeOf at h3
  rw [frcAs_eq, frcN_eq] at h3
  have hlive : (mkG s live out l).live = live := rfl
  rw [hlive] at h3
  split at h3
  rotate_left
  · cases h3
  rename_i f' ids hfn
  split at h3
  rotate_left
  · cases h3
  rename_i hff
  subst hff
  rw [frcAs_eq, frcH_eq] at h3
  simp only [encH_length] at h3
  obtain ⟨bs, hgv, hcap⟩ := fnOf_rel he hfn
  refine wpIn_rangeFunc fun fn0 _ => ?_
  generalize hrec : recOf fn0 a.tmps ps x y w.heap.size = rec
  have hn1 : s.h.length = (encH s.h d.2).length := (encH_length _ _).symm
  -- the world in which the function is called
  let W1 : World := (w.alloc (.deferred (some []))).alloc (.loop (rec .ready none))
  have e1 : Ext w W1 := (ext_push w _).trans (ext_push _ _)
  have hK1 : W1.heap[w.heap.size]? = some (.deferred (some [])) := (ext_push _ _).get (push_get w _)
  have hL1 : W1.heap[w.heap.size + 1]? = some (.loop (rec .ready none)) := by
    have := push_get (w.alloc (.deferred (some []))) (.loop (rec .ready none))
    rwa [World.size_alloc] at this
  refine ⟨w.heap.size + 1, [{ target := .collected w.heap.size, args := #[] }], W1, { target := .fn (.func f') bs, args := #[.func (.yield (w.heap.size + 1)) #[] #[]] }, W1, f',
    #[.func (.yield (w.heap.size + 1)) #[] #[]] ++ bs, W1, ?_, ?_, fun _ _ => trivial, ?_, fun h0 => (by cases h0), ?_⟩
  · have := run_enterLoop_outer (P := P) (w := w) fn0 a.tmps ps x y
    simp only [W1]
    rw [← hrec]
    exact this
  · simp [resolve, hgv, Deferred.ofValue]
    rfl
  · simp only [invoke, henter]
  refine callsIn_of_wp_marks hf hb trivial ?_
  -- the iterator's care
  generalize hgl : ghOfLoop s.h.length (w.heap.size + 1) w.heap.size rec jump = gl
  let mg : GM := [⟨none, 0, fun _ => 0, fun _ => 0, some (w.heap.size + 1, .loop (rec .ready none))⟩, gh0, gh0, gh0]
  have hi1 : Inv G (m ++ mg) (encH s.h d.2 ++ ghosts) W1 := by
    have a0 := (hi.ext e1)
    have ng : ∀ x ∈ G.gh, ∀ (p : Nat), x.1 = p → W1.heap[x.2.1]? = some x.2.2 ∧ x.2.2.isCells = false := fun x hx => by rw [hgh] at hx; cases hx
    have a1 := a0.addNone ⟨none, 0, fun _ => 0, fun _ => 0, some (w.heap.size + 1, .loop (rec .ready none))⟩
    have a2 := a1.addNone gh0
    have a3 := a2.addNone gh0
    have a4 := a3.addNone gh0
    have hlm := hi.len
    have a5 := a4.revive (id := m.length) (g := ⟨none, 0, fun _ => 0, fun _ => 0, some (w.heap.size + 1, .loop (rec .ready none))⟩) (by simp) rfl fun x hx he => ng x hx _ he
    have a6 := a5.revive (id := m.length + 3) (g := gh0) (by simp) rfl fun x hx he => ng x hx _ he
    have e2 : m ++ [(⟨none, 0, fun _ => 0, fun _ => 0, some (w.heap.size + 1, .loop (rec .ready none))⟩ : Gh)] ++ [gh0] ++ [gh0] ++ [gh0] = m ++ mg := by simp [mg]
    have e3 : ∀ hh : Heap, hset (hset (hh ++ [none] ++ [none] ++ [none] ++ [none]) hh.length (some ⟨false, []⟩)) (hh.length + 3) (some ⟨false, []⟩) = hh ++ ghosts := by
      intro hh
      induction hh with
      | nil => rfl
      | cons z hh ih => simp only [List.cons_append, List.length_cons, hset]; rw [ih]
    rw [e2, hlm, e3] at a6
    exact a6
  have hml : m.length = s.h.length := hi.len.trans hn1.symm
  have hglen : ∀ x ∈ gl, x.1 < s.h.length + 4 := by
    rw [← hgl]
    intro x hx
    simp only [ghOfLoop, List.mem_cons, List.not_mem_nil, or_false] at hx
    rcases hx with rfl | rfl | rfl | rfl <;> simp
  obtain ⟨q0, q1, q2, q3⟩ := hget_ghosts (encH s.h d.2)
  rw [← hn1] at q0 q1 q2 q3
  have hiG : Inv (G.withGh gl) (m ++ mg) (encH s.h d.2 ++ ghosts) W1 := hi1.toGh fun x hx => ⟨by rw [List.length_append, ← hn1]; exact hglen x hx, fun ob ho => by
    rw [← hgl] at hx
    simp only [ghOfLoop, List.mem_cons, List.not_mem_nil, or_false] at hx
    rcases hx with rfl | rfl | rfl | rfl
    · exact ⟨hL1, rfl⟩
    · simp only at ho; rw [q1] at ho; cases ho
    · simp only at ho; rw [q2] at ho; cases ho
    · exact ⟨hK1, rfl⟩⟩
  have hpreM : Pre m (m ++ mg) := pre_append _ _
  have hmlen : (m ++ mg).length = s.h.length + 4 := by simp [mg, hml]
  have hm0 : (m ++ mg)[s.h.length]? = some ⟨none, 0, fun _ => 0, fun _ => 0, some (w.heap.size + 1, .loop (rec .ready none))⟩ := by
    rw [List.getElem?_append_right (by omega), hml]; simp [mg]
  have hm1 : (m ++ mg)[s.h.length + 1]? = some gh0 := by rw [List.getElem?_append_right (by omega), hml]; simp [mg]
  have hm2 : (m ++ mg)[s.h.length + 2]? = some gh0 := by rw [List.getElem?_append_right (by omega), hml]; simp [mg]
  have hsz : G.w0.heap.size ≤ w.heap.size := hi.size
  have heG : ERel (G.withGh gl) (m ++ mg) (mkEnv nt live (avsOf (encT s.vs d.1))) ⟨a.tmps, []⟩ := ⟨he.len, rfl, fun i => (he.val i).imp id (AVRel.mono hpreM)⟩
  have hY : YOK P (G.withGh gl) (m ++ mg) (s.h.length + 4) ⟨wrI, false, some (yieldOf P T X.wr nt noLT (mkEnv nt live (avsOf (encT s.vs d.1))) ps.toList x y jump s.h.length)⟩ := by
    have := yield_ok (wr := X.wr) (wrI := wrI) (nt := nt) (T := T) hm hT (G := G) (m0 := m ++ mg) (n1 := s.h.length) (l := w.heap.size + 1) (D := w.heap.size) (fn := fn0) (t := a.tmps) (ps := ps) (x := x) (y := y) (jump := jump)
      (env := mkEnv nt live (avsOf (encT s.vs d.1))) (by rw [hrec, hgl]; exact heG) hmlen (by omega) (by omega) ⟨_, _, hm0, rfl, rfl⟩ ⟨_, hm1, rfl⟩ ⟨_, hm2, rfl⟩
    rw [hrec, hgl] at this
    exact this
  have hxI : TVs (m ++ mg) (.lf (.yld s.h.length) :: ptrs ids) ((#[.func (.yield (w.heap.size + 1)) #[] #[]] ++ bs : Array Value)).toList := by
    have : ((#[.func (.yield (w.heap.size + 1)) #[] #[]] ++ bs : Array Value)).toList = .func (.yield (w.heap.size + 1)) #[] #[] :: bs.toList := by simp
    rw [this]
    exact ⟨⟨_, _, _, hm0, rfl, rfl⟩, (ptrs_rel hcap).mono hpreM⟩
  have heI := argEnv_rel (n := fn.ntmps) hxI (G := G.withGh gl) rfl
  rw [Array.toArray_toList] at heI
  have hst : Std P ⟨wrI, false, some (yieldOf P T X.wr nt noLT (mkEnv nt live (avsOf (encT s.vs d.1))) ps.toList x y jump s.h.length)⟩ (s.h.length + 4) (m ++ mg) (G.withGh gl) :=
    ⟨hY, hglen, fun h0 => (by simp at h0)⟩
  refine evC_wp (ro := none) (n := n - 1) (m0 := m ++ mg) (fun _ => rfl) (fun _ => rfl) hm hT c (hl d) (hsc d) (by rw [hrg]; exact rangesOK_nil) hst (Pin.refl (Nat.le_of_eq hmlen.symm)) hiG heI h3 ?_
  intro G2 hG2 e envI h' m' a' w' hK hi' hp he'
  obtain rfl : G2 = G.withGh gl := by
    rcases hG2 with h0 | ⟨h0, _⟩
    · exact h0
    · simp at h0
  have hpre : Pre m m' := hpreM.trans (Pre.of_pin (by rw [hmlen]; exact hp))
  have hnil : a'.defers = [] := he'.dfr
  have memR : (s.h.length, w.heap.size + 1, Obj.loop (rec .ready none)) ∈ gl := by rw [← hgl]; simp [ghOfLoop]
  have memD : (s.h.length + 2, w.heap.size + 1, Obj.loop (rec .done (some (jumpCode jump)))) ∈ gl := by rw [← hgl]; simp [ghOfLoop]
  have memF : (s.h.length + 3, w.heap.size, Obj.deferred (some [])) ∈ gl := by rw [← hgl]; simp [ghOfLoop]
  -- behind the function: the ghosts are laid down; the record is shut
  have leave : ∀ {e2 : Xt} {st : LoopState} {pe : Option Code} (hrd : w'.heap[w.heap.size + 1]? = some (.loop (rec st pe))) (hfd : w'.heap[w.heap.size]? = some (.deferred (some []))),
      loopOut nt (mkG s live out l) e2 (mkEnv nt live (avsOf (encT s.vs d.1))) (gone h' s.h.length) K = some r →
      Q (exitOf e2) { a with defers := [{ target := .collected w.heap.size, args := #[] }] ++ a.defers } (w'.putObj (w.heap.size + 1) (.loop { rec st pe with state := .exhausted })) := by
    intro e2 st pe hrd hfd hk
    unfold loopOut at hk
    split at hk
    rotate_left
    · cases hk
    have hi2 : Inv (G.withGh gl) m' (gone h' s.h.length) w' := (((hi'.drop _).drop _).drop _).drop _
    have hi3 := hi2.ofGh hgh
    have hi4 := hi3.turn (o' := .loop { rec st pe with state := .exhausted }) hrd rfl (by omega) (by rw [hgh]; intro x hx; cases hx)
    have hfd4 : (w'.putObj (w.heap.size + 1) (.loop { rec st pe with state := .exhausted })).heap[w.heap.size]? = some (.deferred (some [])) := by
      rw [World.putObj_heap_other (by omega)]; exact hfd
    obtain ⟨G3, g1, g2, g3⟩ := hi4.rebase hgh hfd4 hsz
    refine hq G3 (.inr ⟨by rw [hX, hXy]; rfl, g2⟩) _ _ _ _ _ _ hk g3 ?_ hnt ?_ ?_
    · exact Pin.of_pre hn0 hpre
    · rw [g1, ← hdf]; rfl
    · refine SlotsRel.tmps (a := a) ?_ ((getAll_rel he _).mono hpre)
      rfl
  have fin : (cond (isGhost (hget h' s.h.length) && isNone (hget h' (s.h.length + 2)) && isGhost (hget h' (s.h.length + 3))) (frcH (gone h' s.h.length) fun h4 => loopOut nt (mkG s live out l) .normal (mkEnv nt live (avsOf (encT s.vs d.1))) h4 K)
        (cond (isNone (hget h' s.h.length) && isGhost (hget h' (s.h.length + 2)) && isGhost (hget h' (s.h.length + 3))) (frcH (gone h' s.h.length) fun h4 => loopOut nt (mkG s live out l) jump (mkEnv nt live (avsOf (encT s.vs d.1))) h4 K) none)) = some r →
      LeavesInM Fence.wide (n - 1) P fn a'.tmps (rangePost Fence.wide n P (w.heap.size + 1) Q { a with defers := [{ target := .collected w.heap.size, args := #[] }] ++ a.defers }) a'.defers .returning w' := by
    intro hk
    rw [hnil]
    have hresr : ∃ v, (results fn a'.tmps).run P w' = .ok v w' := by
      unfold results
      rw [hres]
      simp
    obtain ⟨v, hv⟩ := hresr
    refine ⟨v, hv, ?_⟩
    cases hc1 : (isGhost (hget h' s.h.length) && isNone (hget h' (s.h.length + 2)) && isGhost (hget h' (s.h.length + 3))) with
    | true =>
      rw [hc1, cond_true, frcH_eq] at hk
      simp only [Bool.and_eq_true, isGhost_iff, isNone_iff] at hc1
      obtain ⟨hrd, _⟩ := (hi'.gh _ memR).2 _ hc1.1.1
      obtain ⟨hfd, _⟩ := (hi'.gh _ memF).2 _ hc1.2
      refine ⟨none, _, ?_, leave hrd hfd hk⟩
      have := run_endLoop (P := P) hrd (by rw [← hrec]; simp [recOf])
      rw [this, ← hrec]; rfl
    | false =>
      rw [hc1, cond_false] at hk
      cases hc2 : (isNone (hget h' s.h.length) && isGhost (hget h' (s.h.length + 2)) && isGhost (hget h' (s.h.length + 3))) with
      | false => rw [hc2] at hk; cases hk
      | true =>
        rw [hc2, cond_true, frcH_eq] at hk
        simp only [Bool.and_eq_true, isGhost_iff, isNone_iff] at hc2
        obtain ⟨hrd, _⟩ := (hi'.gh _ memD).2 _ hc2.1.2
        obtain ⟨hfd, _⟩ := (hi'.gh _ memF).2 _ hc2.2
        have hq2 := leave hrd hfd hk
        refine ⟨some (jumpCode jump), w'.putObj (w.heap.size + 1) (.loop { rec .done (some (jumpCode jump)) with state := .exhausted }), ?_, ?_⟩
        · have := run_endLoop (P := P) hrd (by rw [← hrec]; simp [recOf])
          rw [this, ← hrec]; rfl
        · cases jump with
          | exit i => exact wpIn_exit hq2
          | goto i => exact wpIn_goto hq2
          | ret => exact wpIn_ret hq2
          | normal => exact absurd rfl hj
  cases e with
  | normal => exact fin hK
  | ret => exact fin hK
  | exit i => cases hK
  | goto i => cases hK

end
/-! ### The parts of a range -/

def rgG : Code → Operand
  | .rangeFunc g _ _ _ => g
  | _ => .tmp 0
def rgP : Code → Array Tmp
  | .rangeFunc _ ps _ _ => ps
  | _ => #[]
def rgX : Code → Code
  | .rangeFunc _ _ x _ => x
  | c => c
def rgY : Code → Code
  | .rangeFunc _ _ _ y => y
  | c => c

end Go.Proofs.YtlgopekjjkdkiaaDoor.Ev
end

section
namespace Go.Proofs.YtlgopekjjkdkiaaDoor.X
open Go Go.Proofs.YtlgopekjjkdkiaaDoor.Ev Go.Proofs
set_option linter.unusedVariables false
set_option linter.unusedSectionVars false
/-! disk.Disk).Fuse -/
noncomputable def f10_1 {β : Type} (F : Nat) (a1 : Int) (a2 : Int) (a3 : Bool) (a4 : Int) (a5 : List ByteArray) (a6 : List (Int × ByteArray)) (K0 : Int → Option β) : Option β := K0 (if (-1) > a1 then (-1) else a1)
variable [FZ]
def sh10_1 : Sh := ⟨[.lf (.ptr 0 0), .lf (.int .i64)], [some ⟨some false, [.full 1, .full 2, .int .i64, .bool, .int .i64]⟩, some ⟨none, [.seq .str 0]⟩, some ⟨none, [.seq (.pair (.int .i64) .str) 0]⟩]⟩
abbrev Y10_1 := Int → Int → Bool → Int → List ByteArray → List (Int × ByteArray) → (Int → Option Res) → Option Res
noncomputable def A10_1 (g : Y10_1) (d : sh10_1.den) (K : KF) : Option Res := g d.1.2.1 d.2.1.2.2.2.1 d.2.1.2.2.2.2.1 d.2.1.2.2.2.2.2.1 d.2.2.1.2.1 d.2.2.2.1.2.1 (fun (y0 : Int) => K [] [some ⟨false, [.full 1, .full 2, .int .i64 y0, .bool d.2.1.2.2.2.2.1, .int .i64 d.2.1.2.2.2.2.2.1]⟩, some ⟨d.2.2.1.1, [.seq .str 0 d.2.2.1.2.1]⟩, some ⟨d.2.2.2.1.1, [.seq (.pair (.int .i64) .str) 0 d.2.2.2.1.2.1]⟩])
noncomputable def S10_1 (F : Nat) (o : Summ) : Summ := mkS sh10_1 (fun d K => A10_1 (f10_1 F) d K) o
noncomputable def code10 : Code := bodyOf Tryd.f10
theorem scopes10 : scopesOf code10 = [] := by kernel_rfl
theorem ranges10 : rangesOf code10 = [] := by kernel_rfl
theorem loops10 : loopsOf code10 = [] := by kernel_rfl
theorem enter10 : ∀ args w, (callFunc 10 args).run Tryd.prog w = .ok (.enter 10 args) w := enter_of (fn := Tryd.f10) (by kernel_rfl) (by kernel_rfl) (by kernel_rfl)
noncomputable def T10_1 (F : Nat) : FuncId → Option Summ := tab []
noncomputable def TB10_1  : FuncId → Option Summ := tab []
noncomputable def LT10_1 (F : Nat) : Nat → Option LoopS := ltab []
theorem E10_1g (F : Nat)    (d : sh10_1.den) (K : KF) : evBody Tryd.prog TB10_1 (xw []) 11 3 (ltab []) [] code10 Tryd.f10.results.toList (encT sh10_1.vs d.1) (encH sh10_1.h d.2) K = A10_1 (fun (a1 : Int) (a2 : Int) (a3 : Bool) (a4 : Int) (a5 : List ByteArray) (a6 : List (Int × ByteArray)) (K0 : (Int → Option Res)) => K0 (if (-1) > a1 then (-1) else a1)) d K := by kernel_rfl
theorem E10_1 (F : Nat) (d : sh10_1.den) (K : KF) : evBody Tryd.prog (T10_1 F) (xw []) 11 3 (LT10_1 F) [] code10 Tryd.f10.results.toList (encT sh10_1.vs d.1) (encH sh10_1.h d.2) K = A10_1 (f10_1 F) d K := Eq.mp (by kernel_rfl) (E10_1g F    d K)
theorem S10_1_ok (F : Nat) (o : Summ) (ho : SoundFn Tryd.prog 10 o) : SoundFn Tryd.prog 10 (S10_1 F o) :=
  soundFn_of (fn := Tryd.f10) (c := code10) rfl rfl (by kernel_rfl) tab_nil (by kernel_rfl) (by kernel_rfl) ho (by rw [loops10]; exact loopsOK_nil) (by rw [scopes10]; exact scopesOK_nil) (by rw [ranges10]; exact rangesOK_nil) (E10_1 F)
end Go.Proofs.YtlgopekjjkdkiaaDoor.X
end

section
namespace Go.Proofs.YtlgopekjjkdkiaaDoor.X
open Go Go.Proofs.YtlgopekjjkdkiaaDoor.Ev Go.Proofs
set_option linter.unusedVariables false
set_option linter.unusedSectionVars false
/-! disk.Disk).Fuse -/
noncomputable def f10_6206 {β : Type} (F : Nat) (a1 : Int) (K0 : Option β) : Option β := K0
variable [FZ]
def sh10_6206 : Sh := ⟨[.lf (.nilp), .lf (.int .i64)], []⟩
abbrev Y10_6206 := Int → (Option Res) → Option Res
noncomputable def A10_6206 (g : Y10_6206) (d : sh10_6206.den) (K : KF) : Option Res := g d.1.2.1 (K [] [])
noncomputable def S10_6206 (F : Nat) (o : Summ) : Summ := mkS sh10_6206 (fun d K => A10_6206 (f10_6206 F) d K) o
noncomputable def T10_6206 (F : Nat) : FuncId → Option Summ := tab []
noncomputable def TB10_6206  : FuncId → Option Summ := tab []
noncomputable def LT10_6206 (F : Nat) : Nat → Option LoopS := ltab []
theorem E10_6206g (F : Nat)    (d : sh10_6206.den) (K : KF) : evBody Tryd.prog TB10_6206 (xw []) 11 0 (ltab []) [] code10 Tryd.f10.results.toList (encT sh10_6206.vs d.1) (encH sh10_6206.h d.2) K = A10_6206 (fun (a1 : Int) (K0 : (Option Res)) => K0) d K := by kernel_rfl
theorem E10_6206 (F : Nat) (d : sh10_6206.den) (K : KF) : evBody Tryd.prog (T10_6206 F) (xw []) 11 0 (LT10_6206 F) [] code10 Tryd.f10.results.toList (encT sh10_6206.vs d.1) (encH sh10_6206.h d.2) K = A10_6206 (f10_6206 F) d K := Eq.mp (by kernel_rfl) (E10_6206g F    d K)
theorem S10_6206_ok (F : Nat) (o : Summ) (ho : SoundFn Tryd.prog 10 o) : SoundFn Tryd.prog 10 (S10_6206 F o) :=
  soundFn_of (fn := Tryd.f10) (c := code10) rfl rfl (by kernel_rfl) tab_nil (by kernel_rfl) (by kernel_rfl) ho (by rw [loops10]; exact loopsOK_nil) (by rw [scopes10]; exact scopesOK_nil) (by rw [ranges10]; exact rangesOK_nil) (E10_6206 F)
end Go.Proofs.YtlgopekjjkdkiaaDoor.X
end

section
namespace Go.Proofs.YtlgopekjjkdkiaaDoor.X
open Go Go.Proofs.YtlgopekjjkdkiaaDoor.Ev Go.Proofs
set_option linter.unusedVariables false
set_option linter.unusedSectionVars false
/-! disk.Disk).Crash -/
noncomputable def f11_1_l2 {β : Type} (F : Nat) (v1 : Int) (v3 : Int) (v4 : Bool) (v5 : Int) (v7 : List (Int × ByteArray)) (v8 : List Bool) (K0 : List ByteArray → Option β) : Nat → Int → List ByteArray → Option β
  | 0, _, _ => none
  | k + 1, v2, v6 => cond (decide (v2 < v1)) (cond (decide ((0 : Int) ≤ v2 ∧ v2 < ((v7.length : Nat) : Int))) (cond (decide (0 + v2.toNat < v7.length)) (cond (decide (v2 < ((v8.length : Nat) : Int))) (cond (decide ((0 : Int) ≤ v2 ∧ v2 < ((v8.length : Nat) : Int))) (cond (decide (0 + v2.toNat < v8.length)) (cond (v8.getD (0 + v2.toNat) false) (cond (decide ((0 : Int) ≤ (v7.getD (0 + v2.toNat) (0, ByteArray.empty)).1 ∧ (v7.getD (0 + v2.toNat) (0, ByteArray.empty)).1 < ((v6.length : Nat) : Int))) (cond (decide (0 + (((v7.getD (0 + v2.toNat) (0, ByteArray.empty)).1).toNat) < v6.length)) (f11_1_l2 F v1 v3 v4 v5 v7 v8 K0 k (IntKind.i64.wrap (v2 + 1)) (v6.set (0 + (((v7.getD (0 + v2.toNat) (0, ByteArray.empty)).1).toNat)) ((v7.getD (0 + v2.toNat) (0, ByteArray.empty)).2))) none) none) (f11_1_l2 F v1 v3 v4 v5 v7 v8 K0 k (IntKind.i64.wrap (v2 + 1)) v6)) none) none) (f11_1_l2 F v1 v3 v4 v5 v7 v8 K0 k (IntKind.i64.wrap (v2 + 1)) v6)) none) none) (K0 v6)
noncomputable def f11_1 {β : Type} (F : Nat) (a1 : Int) (a2 : Bool) (a3 : Int) (a4 : List ByteArray) (a5 : List (Int × ByteArray)) (a6 : List Bool) (K0 : List ByteArray → List (Int × ByteArray) → Option β) : Option β := f11_1_l2 F ((a5.length : Nat) : Int) a1 a2 a3 a5 a6 (fun x9 => K0 x9 []) F 0 a4
variable [FZ]
def sh11_1 : Sh := ⟨[.lf (.ptr 0 0), .lf (.full 3)], [some ⟨some false, [.full 1, .full 2, .int .i64, .bool, .int .i64]⟩, some ⟨some false, [.seq .str 0]⟩, some ⟨none, [.seq (.pair (.int .i64) .str) 0]⟩, some ⟨none, [.seq .bool 0]⟩]⟩
abbrev Y11_1 := Int → Bool → Int → List ByteArray → List (Int × ByteArray) → List Bool → (List ByteArray → List (Int × ByteArray) → Option Res) → Option Res
noncomputable def A11_1 (g : Y11_1) (d : sh11_1.den) (K : KF) : Option Res := g d.2.1.2.2.2.1 d.2.1.2.2.2.2.1 d.2.1.2.2.2.2.2.1 d.2.2.1.2.1 d.2.2.2.1.2.1 d.2.2.2.2.1.2.1 (fun (y3 : List ByteArray) (y5 : List (Int × ByteArray)) => K [] [some ⟨false, [.full 1, .full 4, .int .i64 (-1), .bool true, .int .i64 d.2.1.2.2.2.2.2.1]⟩, some ⟨false, [.seq .str 0 y3]⟩, none, some ⟨d.2.2.2.2.1.1, [.seq .bool 0 d.2.2.2.2.1.2.1]⟩, some ⟨false, [.seq (.pair (.int .i64) .str) 0 y5]⟩])
noncomputable def S11_1 (F : Nat) (o : Summ) : Summ := mkS sh11_1 (fun d K => A11_1 (f11_1 F) d K) o
noncomputable def code11 : Code := bodyOf Tryd.f11
noncomputable def b11_0 : Code := cB (cB (cR (cL (cR (code11)))))
theorem scopes11 : scopesOf code11 = [] := by kernel_rfl
theorem ranges11 : rangesOf code11 = [] := by kernel_rfl
theorem loops11 : loopsOf code11 = [b11_0] := by kernel_rfl
theorem enter11 : ∀ args w, (callFunc 11 args).run Tryd.prog w = .ok (.enter 11 args) w := enter_of (fn := Tryd.f11) (by kernel_rfl) (by kernel_rfl) (by kernel_rfl)
noncomputable def T11_1 (F : Nat) : FuncId → Option Summ := tab []
noncomputable def TB11_1  : FuncId → Option Summ := tab []
def sh11_1_l2 : Sh := ⟨[.lf (.ptr 0 0), .lf (.full 3), .lf (.full 2), .lf (.int .i64), .lf (.int .i64)], [some ⟨some false, [.full 1, .full 2, .int .i64, .bool, .int .i64]⟩, some ⟨some false, [.seq .str 0]⟩, some ⟨none, [.seq (.pair (.int .i64) .str) 0]⟩, some ⟨none, [.seq .bool 0]⟩]⟩
abbrev Y11_1_l2 := Int → Int → Bool → Int → List (Int × ByteArray) → List Bool → (List ByteArray → Option Res) → Nat → Int → List ByteArray → Option Res
noncomputable def A11_1_l2 (g : Y11_1_l2) (k : Nat) (d : sh11_1_l2.den) (K : KL) : Option Res := g d.1.2.2.2.1 d.2.1.2.2.2.1 d.2.1.2.2.2.2.1 d.2.1.2.2.2.2.2.1 d.2.2.2.1.2.1 d.2.2.2.2.1.2.1 (fun (y3 : List ByteArray) => K (.exit 0) [.tv (.lf (.ptr 0 0))] [some ⟨false, [.full 1, .full 2, .int .i64 d.2.1.2.2.2.1, .bool d.2.1.2.2.2.2.1, .int .i64 d.2.1.2.2.2.2.2.1]⟩, some ⟨false, [.seq .str 0 y3]⟩, some ⟨d.2.2.2.1.1, [.seq (.pair (.int .i64) .str) 0 d.2.2.2.1.2.1]⟩, some ⟨d.2.2.2.2.1.1, [.seq .bool 0 d.2.2.2.2.1.2.1]⟩]) k d.1.2.2.2.2.1 d.2.2.1.2.1
noncomputable def G11_1_2 (F k : Nat) : LoopS := mkG sh11_1_l2 [0, 1, 11, 12, 13] (outT [(.exit 0, [0])]) (fun d K => A11_1_l2 (f11_1_l2 F) k d K) []
noncomputable def LT11_1 (F : Nat) : Nat → Option LoopS := ltab [(2, G11_1_2 F F)]
theorem L11_1_l2g (F k : Nat)   (l2 : Y11_1_l2) (X2 : LoopS) (d : sh11_1_l2.den) (K : KL) : A11_1_l2 ((fun (v1 : Int) (v3 : Int) (v4 : Bool) (v5 : Int) (v7 : List (Int × ByteArray)) (v8 : List Bool) (K0 : (List ByteArray → Option Res)) (k : Nat) (v2 : Int) (v6 : List ByteArray) => cond (decide (v2 < v1)) (cond (decide ((0 : Int) ≤ v2 ∧ v2 < ((v7.length : Nat) : Int))) (cond (decide (0 + v2.toNat < v7.length)) (cond (decide (v2 < ((v8.length : Nat) : Int))) (cond (decide ((0 : Int) ≤ v2 ∧ v2 < ((v8.length : Nat) : Int))) (cond (decide (0 + v2.toNat < v8.length)) (cond (v8.getD (0 + v2.toNat) false) (cond (decide ((0 : Int) ≤ (v7.getD (0 + v2.toNat) (0, ByteArray.empty)).1 ∧ (v7.getD (0 + v2.toNat) (0, ByteArray.empty)).1 < ((v6.length : Nat) : Int))) (cond (decide (0 + (((v7.getD (0 + v2.toNat) (0, ByteArray.empty)).1).toNat) < v6.length)) (l2 v1 v3 v4 v5 v7 v8 K0 k (IntKind.i64.wrap (v2 + 1)) (v6.set (0 + (((v7.getD (0 + v2.toNat) (0, ByteArray.empty)).1).toNat)) ((v7.getD (0 + v2.toNat) (0, ByteArray.empty)).2))) none) none) (l2 v1 v3 v4 v5 v7 v8 K0 k (IntKind.i64.wrap (v2 + 1)) v6)) none) none) (l2 v1 v3 v4 v5 v7 v8 K0 k (IntKind.i64.wrap (v2 + 1)) v6)) none) none) (K0 v6))) k d K = roundOf Tryd.prog TB11_1 (xw []) 47 4 (ltab [(2, X2)]) (mkG sh11_1_l2 [0, 1, 11, 12, 13] (outT [(.exit 0, [0])]) (fun d K => A11_1_l2 l2 k d K) []) b11_0 (encT sh11_1_l2.vs d.1) (encH sh11_1_l2.h d.2) K := by kernel_rfl
theorem L11_1_2 (F : Nat) : LoopOK Tryd.prog (T11_1 F) (xw []) 47 4 (LT11_1 F) (G11_1_2 F F) b11_0 :=
  loopOK_of (s := sh11_1_l2) (live := [0, 1, 11, 12, 13]) (out := (outT [(.exit 0, [0])])) (mv := []) (fun k d K => A11_1_l2 (f11_1_l2 F) k d K) F (fun d K => by kernel_rfl)  (fun k d K => Eq.mp (by kernel_rfl) (L11_1_l2g F k   (f11_1_l2 F) (G11_1_2 F F) d K))
theorem E11_1g (F : Nat)  (l2 : Y11_1_l2)  (d : sh11_1.den) (K : KF) : evBody Tryd.prog TB11_1 (xw []) 47 4 (ltab [(2, mkG sh11_1_l2 [0, 1, 11, 12, 13] (outT [(.exit 0, [0])]) (fun d K => A11_1_l2 l2 F d K) [])]) [2] code11 Tryd.f11.results.toList (encT sh11_1.vs d.1) (encH sh11_1.h d.2) K = A11_1 (fun (a1 : Int) (a2 : Bool) (a3 : Int) (a4 : List ByteArray) (a5 : List (Int × ByteArray)) (a6 : List Bool) (K0 : (List ByteArray → List (Int × ByteArray) → Option Res)) => l2 ((a5.length : Nat) : Int) a1 a2 a3 a5 a6 (fun x9 => K0 x9 []) F 0 a4) d K := by kernel_rfl
theorem E11_1 (F : Nat) (d : sh11_1.den) (K : KF) : evBody Tryd.prog (T11_1 F) (xw []) 47 4 (LT11_1 F) [2] code11 Tryd.f11.results.toList (encT sh11_1.vs d.1) (encH sh11_1.h d.2) K = A11_1 (f11_1 F) d K := Eq.mp (by kernel_rfl) (E11_1g F  (f11_1_l2 F)  d K)
theorem S11_1_ok (F : Nat) (o : Summ) (ho : SoundFn Tryd.prog 11 o) : SoundFn Tryd.prog 11 (S11_1 F o) :=
  soundFn_of (fn := Tryd.f11) (c := code11) rfl rfl (by kernel_rfl) tab_nil (by kernel_rfl) (by kernel_rfl) ho (by rw [loops11]; exact (loopsOK_cons (by kernel_rfl) (L11_1_2 F) loopsOK_nil)) (by rw [scopes11]; exact scopesOK_nil) (by rw [ranges11]; exact rangesOK_nil) (E11_1 F)
end Go.Proofs.YtlgopekjjkdkiaaDoor.X
end

section
namespace Go.Proofs.YtlgopekjjkdkiaaDoor.X
open Go Go.Proofs.YtlgopekjjkdkiaaDoor.Ev Go.Proofs
set_option linter.unusedVariables false
set_option linter.unusedSectionVars false
/-! disk.Disk).Crash -/
noncomputable def f11_7155 {β : Type} (F : Nat) (a1 : List Bool) (K0 : Option β) : Option β := K0
variable [FZ]
def sh11_7155 : Sh := ⟨[.lf (.nilp), .lf (.full 0)], [some ⟨none, [.seq .bool 0]⟩]⟩
abbrev Y11_7155 := List Bool → (Option Res) → Option Res
noncomputable def A11_7155 (g : Y11_7155) (d : sh11_7155.den) (K : KF) : Option Res := g d.2.1.2.1 (K [] [some ⟨d.2.1.1, [.seq .bool 0 d.2.1.2.1]⟩])
noncomputable def S11_7155 (F : Nat) (o : Summ) : Summ := mkS sh11_7155 (fun d K => A11_7155 (f11_7155 F) d K) o
noncomputable def T11_7155 (F : Nat) : FuncId → Option Summ := tab []
noncomputable def TB11_7155  : FuncId → Option Summ := tab []
noncomputable def LT11_7155 (F : Nat) : Nat → Option LoopS := ltab []
theorem E11_7155g (F : Nat)    (d : sh11_7155.den) (K : KF) : evBody Tryd.prog TB11_7155 (xw []) 47 1 (ltab []) [] code11 Tryd.f11.results.toList (encT sh11_7155.vs d.1) (encH sh11_7155.h d.2) K = A11_7155 (fun (a1 : List Bool) (K0 : (Option Res)) => K0) d K := by kernel_rfl
theorem E11_7155 (F : Nat) (d : sh11_7155.den) (K : KF) : evBody Tryd.prog (T11_7155 F) (xw []) 47 1 (LT11_7155 F) [] code11 Tryd.f11.results.toList (encT sh11_7155.vs d.1) (encH sh11_7155.h d.2) K = A11_7155 (f11_7155 F) d K := Eq.mp (by kernel_rfl) (E11_7155g F    d K)
theorem S11_7155_ok (F : Nat) (o : Summ) (ho : SoundFn Tryd.prog 11 o) : SoundFn Tryd.prog 11 (S11_7155 F o) :=
  soundFn_of (fn := Tryd.f11) (c := code11) rfl rfl (by kernel_rfl) tab_nil (by kernel_rfl) (by kernel_rfl) ho (by rw [loops11]; exact (loopsOK_skip (by kernel_rfl) loopsOK_nil)) (by rw [scopes11]; exact scopesOK_nil) (by rw [ranges11]; exact rangesOK_nil) (E11_7155 F)
end Go.Proofs.YtlgopekjjkdkiaaDoor.X
end

section
namespace Go.Proofs.YtlgopekjjkdkiaaDoor.X
open Go Go.Proofs.YtlgopekjjkdkiaaDoor.Ev Go.Proofs
set_option linter.unusedVariables false
set_option linter.unusedSectionVars false
/-! disk.Disk).Up -/
noncomputable def f12_1 {β : Type} (F : Nat) (a1 : Int) (a2 : Bool) (a3 : Int) (a4 : List ByteArray) (a5 : List (Int × ByteArray)) (K0 : Int → Int → Bool → List (Int × ByteArray) → Option β) : Option β := cond (!a2) (K0 21 a1 a2 a5) (K0 0 (-1) false [])
variable [FZ]
def sh12_1 : Sh := ⟨[.lf (.ptr 0 0)], [some ⟨some false, [.full 1, .full 2, .int .i64, .bool, .int .i64]⟩, some ⟨none, [.seq .str 0]⟩, some ⟨some false, [.seq (.pair (.int .i64) .str) 0]⟩]⟩
abbrev Y12_1 := Int → Bool → Int → List ByteArray → List (Int × ByteArray) → (Int → Int → Bool → List (Int × ByteArray) → Option Res) → Option Res
noncomputable def A12_1 (g : Y12_1) (d : sh12_1.den) (K : KF) : Option Res := g d.2.1.2.2.2.1 d.2.1.2.2.2.2.1 d.2.1.2.2.2.2.2.1 d.2.2.1.2.1 d.2.2.2.1.2.1 (fun (y0 : Int) (y1 : Int) (y2 : Bool) (y5 : List (Int × ByteArray)) => K [.lf (.int .i64 y0)] [some ⟨false, [.full 1, .full 3, .int .i64 y1, .bool y2, .int .i64 d.2.1.2.2.2.2.2.1]⟩, some ⟨d.2.2.1.1, [.seq .str 0 d.2.2.1.2.1]⟩, none, some ⟨false, [.seq (.pair (.int .i64) .str) 0 y5]⟩])
noncomputable def S12_1 (F : Nat) (o : Summ) : Summ := mkS sh12_1 (fun d K => A12_1 (f12_1 F) d K) o
noncomputable def code12 : Code := bodyOf Tryd.f12
theorem scopes12 : scopesOf code12 = [] := by kernel_rfl
theorem ranges12 : rangesOf code12 = [] := by kernel_rfl
theorem loops12 : loopsOf code12 = [] := by kernel_rfl
theorem enter12 : ∀ args w, (callFunc 12 args).run Tryd.prog w = .ok (.enter 12 args) w := enter_of (fn := Tryd.f12) (by kernel_rfl) (by kernel_rfl) (by kernel_rfl)
noncomputable def T12_1 (F : Nat) : FuncId → Option Summ := tab []
noncomputable def TB12_1  : FuncId → Option Summ := tab []
noncomputable def LT12_1 (F : Nat) : Nat → Option LoopS := ltab []
theorem E12_1g (F : Nat)    (d : sh12_1.den) (K : KF) : evBody Tryd.prog TB12_1 (xw []) 21 3 (ltab []) [2] code12 Tryd.f12.results.toList (encT sh12_1.vs d.1) (encH sh12_1.h d.2) K = A12_1 (fun (a1 : Int) (a2 : Bool) (a3 : Int) (a4 : List ByteArray) (a5 : List (Int × ByteArray)) (K0 : (Int → Int → Bool → List (Int × ByteArray) → Option Res)) => cond (!a2) (K0 21 a1 a2 a5) (K0 0 (-1) false [])) d K := by kernel_rfl
theorem E12_1 (F : Nat) (d : sh12_1.den) (K : KF) : evBody Tryd.prog (T12_1 F) (xw []) 21 3 (LT12_1 F) [2] code12 Tryd.f12.results.toList (encT sh12_1.vs d.1) (encH sh12_1.h d.2) K = A12_1 (f12_1 F) d K := Eq.mp (by kernel_rfl) (E12_1g F    d K)
theorem S12_1_ok (F : Nat) (o : Summ) (ho : SoundFn Tryd.prog 12 o) : SoundFn Tryd.prog 12 (S12_1 F o) :=
  soundFn_of (fn := Tryd.f12) (c := code12) rfl rfl (by kernel_rfl) tab_nil (by kernel_rfl) (by kernel_rfl) ho (by rw [loops12]; exact loopsOK_nil) (by rw [scopes12]; exact scopesOK_nil) (by rw [ranges12]; exact rangesOK_nil) (E12_1 F)
end Go.Proofs.YtlgopekjjkdkiaaDoor.X
end

section
namespace Go.Proofs.YtlgopekjjkdkiaaDoor.X
open Go Go.Proofs.YtlgopekjjkdkiaaDoor.Ev Go.Proofs
set_option linter.unusedVariables false
set_option linter.unusedSectionVars false
/-! disk.Disk).Up -/
noncomputable def f12_568 {β : Type} (F : Nat)  (K0 : Option β) : Option β := K0
variable [FZ]
def sh12_568 : Sh := ⟨[.lf (.nilp)], []⟩
abbrev Y12_568 := (Option Res) → Option Res
noncomputable def A12_568 (g : Y12_568) (d : sh12_568.den) (K : KF) : Option Res := g (K [.lf (.int .i64 1)] [])
noncomputable def S12_568 (F : Nat) (o : Summ) : Summ := mkS sh12_568 (fun d K => A12_568 (f12_568 F) d K) o
noncomputable def T12_568 (F : Nat) : FuncId → Option Summ := tab []
noncomputable def TB12_568  : FuncId → Option Summ := tab []
noncomputable def LT12_568 (F : Nat) : Nat → Option LoopS := ltab []
theorem E12_568g (F : Nat)    (d : sh12_568.den) (K : KF) : evBody Tryd.prog TB12_568 (xw []) 21 0 (ltab []) [] code12 Tryd.f12.results.toList (encT sh12_568.vs d.1) (encH sh12_568.h d.2) K = A12_568 (fun (K0 : (Option Res)) => K0) d K := by kernel_rfl
theorem E12_568 (F : Nat) (d : sh12_568.den) (K : KF) : evBody Tryd.prog (T12_568 F) (xw []) 21 0 (LT12_568 F) [] code12 Tryd.f12.results.toList (encT sh12_568.vs d.1) (encH sh12_568.h d.2) K = A12_568 (f12_568 F) d K := Eq.mp (by kernel_rfl) (E12_568g F    d K)
theorem S12_568_ok (F : Nat) (o : Summ) (ho : SoundFn Tryd.prog 12 o) : SoundFn Tryd.prog 12 (S12_568 F o) :=
  soundFn_of (fn := Tryd.f12) (c := code12) rfl rfl (by kernel_rfl) tab_nil (by kernel_rfl) (by kernel_rfl) ho (by rw [loops12]; exact loopsOK_nil) (by rw [scopes12]; exact scopesOK_nil) (by rw [ranges12]; exact rangesOK_nil) (E12_568 F)
end Go.Proofs.YtlgopekjjkdkiaaDoor.X
end

section
namespace Go.Proofs.YtlgopekjjkdkiaaDoor.X
open Go Go.Proofs.YtlgopekjjkdkiaaDoor.Ev Go.Proofs
set_option linter.unusedVariables false
set_option linter.unusedSectionVars false
/-! pentimentoref15.Entries -/
noncomputable def f14_1_l4 {β : Type} (F : Nat) (v2 : List (Int × (Int × (Int × ByteArray)))) (v3 : List (Int × (Int × (Int × ByteArray)))) (K0 : Option β) (K1 : Option β) : Nat → Int → Option β
  | 0, _ => none
  | k + 1, v1 => cond (decide (v1 < ((v2.length : Nat) : Int))) (cond (decide ((0 : Int) ≤ v1 ∧ v1 < ((v2.length : Nat) : Int))) (cond (decide (0 + v1.toNat < v2.length)) (cond (decide ((0 : Int) ≤ v1 ∧ v1 < ((v3.length : Nat) : Int))) (cond (decide (0 + v1.toNat < v3.length)) (cond (!((((v2.getD (0 + v1.toNat) (0, (0, (0, ByteArray.empty)))).1) == ((v3.getD (0 + v1.toNat) (0, (0, (0, ByteArray.empty)))).1)) && (((((v2.getD (0 + v1.toNat) (0, (0, (0, ByteArray.empty)))).2).1) == (((v3.getD (0 + v1.toNat) (0, (0, (0, ByteArray.empty)))).2).1)) && ((((((v2.getD (0 + v1.toNat) (0, (0, (0, ByteArray.empty)))).2).2).1) == ((((v3.getD (0 + v1.toNat) (0, (0, (0, ByteArray.empty)))).2).2).1)) && (((((v2.getD (0 + v1.toNat) (0, (0, (0, ByteArray.empty)))).2).2).2).toList == ((((v3.getD (0 + v1.toNat) (0, (0, (0, ByteArray.empty)))).2).2).2).toList))))) (K0) (f14_1_l4 F v2 v3 K0 K1 k (IntKind.i64.wrap (v1 + 1)))) none) none) none) none) (K1)
noncomputable def f14_1 {β : Type} (F : Nat) (a1 : List (Int × (Int × (Int × ByteArray)))) (a2 : List (Int × (Int × (Int × ByteArray)))) (K0 : Bool → Option β) : Option β := cond (((a1.length : Nat) : Int) != ((a2.length : Nat) : Int)) (K0 false) (f14_1_l4 F a1 a2 (K0 false) (K0 true) F 0)
variable [FZ]
def sh14_1 : Sh := ⟨[.lf (.full 0), .lf (.full 1)], [some ⟨none, [.seq (.pair (.int .u64) (.pair (.int .u64) (.pair (.int .i64) .str))) 0]⟩, some ⟨none, [.seq (.pair (.int .u64) (.pair (.int .u64) (.pair (.int .i64) .str))) 0]⟩]⟩
abbrev Y14_1 := List (Int × (Int × (Int × ByteArray))) → List (Int × (Int × (Int × ByteArray))) → (Bool → Option Res) → Option Res
noncomputable def A14_1 (g : Y14_1) (d : sh14_1.den) (K : KF) : Option Res := g d.2.1.2.1 d.2.2.1.2.1 (fun (y0 : Bool) => K [.lf (.bool y0)] [some ⟨d.2.1.1, [.seq (.pair (.int .u64) (.pair (.int .u64) (.pair (.int .i64) .str))) 0 d.2.1.2.1]⟩, some ⟨d.2.2.1.1, [.seq (.pair (.int .u64) (.pair (.int .u64) (.pair (.int .i64) .str))) 0 d.2.2.1.2.1]⟩])
noncomputable def S14_1 (F : Nat) (o : Summ) : Summ := mkS sh14_1 (fun d K => A14_1 (f14_1 F) d K) o
noncomputable def code14 : Code := bodyOf Tryd.f14
noncomputable def b14_0 : Code := cB (cB (cR (cL (cR (cR (code14))))))
theorem scopes14 : scopesOf code14 = [] := by kernel_rfl
theorem ranges14 : rangesOf code14 = [] := by kernel_rfl
theorem loops14 : loopsOf code14 = [b14_0] := by kernel_rfl
theorem enter14 : ∀ args w, (callFunc 14 args).run Tryd.prog w = .ok (.enter 14 args) w := enter_of (fn := Tryd.f14) (by kernel_rfl) (by kernel_rfl) (by kernel_rfl)
noncomputable def T14_1 (F : Nat) : FuncId → Option Summ := tab []
noncomputable def TB14_1  : FuncId → Option Summ := tab []
def sh14_1_l4 : Sh := ⟨[.lf (.full 0), .lf (.full 1), .lf (.int .i64)], [some ⟨none, [.seq (.pair (.int .u64) (.pair (.int .u64) (.pair (.int .i64) .str))) 0]⟩, some ⟨none, [.seq (.pair (.int .u64) (.pair (.int .u64) (.pair (.int .i64) .str))) 0]⟩]⟩
abbrev Y14_1_l4 := List (Int × (Int × (Int × ByteArray))) → List (Int × (Int × (Int × ByteArray))) → (Option Res) → (Option Res) → Nat → Int → Option Res
noncomputable def A14_1_l4 (g : Y14_1_l4) (k : Nat) (d : sh14_1_l4.den) (K : KL) : Option Res := g d.2.1.2.1 d.2.2.1.2.1 (K .ret [.tv (.lf (.bool false))] [some ⟨d.2.1.1, [.seq (.pair (.int .u64) (.pair (.int .u64) (.pair (.int .i64) .str))) 0 d.2.1.2.1]⟩, some ⟨d.2.2.1.1, [.seq (.pair (.int .u64) (.pair (.int .u64) (.pair (.int .i64) .str))) 0 d.2.2.1.2.1]⟩]) (K (.exit 0) [] [some ⟨d.2.1.1, [.seq (.pair (.int .u64) (.pair (.int .u64) (.pair (.int .i64) .str))) 0 d.2.1.2.1]⟩, some ⟨d.2.2.1.1, [.seq (.pair (.int .u64) (.pair (.int .u64) (.pair (.int .i64) .str))) 0 d.2.2.1.2.1]⟩]) k d.1.2.2.1
noncomputable def G14_1_4 (F k : Nat) : LoopS := mkG sh14_1_l4 [0, 1, 5] (outT [(.exit 0, []), (.ret, [4])]) (fun d K => A14_1_l4 (f14_1_l4 F) k d K) []
noncomputable def LT14_1 (F : Nat) : Nat → Option LoopS := ltab [(4, G14_1_4 F F)]
theorem L14_1_l4g (F k : Nat)   (l4 : Y14_1_l4) (X4 : LoopS) (d : sh14_1_l4.den) (K : KL) : A14_1_l4 ((fun (v2 : List (Int × (Int × (Int × ByteArray)))) (v3 : List (Int × (Int × (Int × ByteArray)))) (K0 : (Option Res)) (K1 : (Option Res)) (k : Nat) (v1 : Int) => cond (decide (v1 < ((v2.length : Nat) : Int))) (cond (decide ((0 : Int) ≤ v1 ∧ v1 < ((v2.length : Nat) : Int))) (cond (decide (0 + v1.toNat < v2.length)) (cond (decide ((0 : Int) ≤ v1 ∧ v1 < ((v3.length : Nat) : Int))) (cond (decide (0 + v1.toNat < v3.length)) (cond (!((((v2.getD (0 + v1.toNat) (0, (0, (0, ByteArray.empty)))).1) == ((v3.getD (0 + v1.toNat) (0, (0, (0, ByteArray.empty)))).1)) && (((((v2.getD (0 + v1.toNat) (0, (0, (0, ByteArray.empty)))).2).1) == (((v3.getD (0 + v1.toNat) (0, (0, (0, ByteArray.empty)))).2).1)) && ((((((v2.getD (0 + v1.toNat) (0, (0, (0, ByteArray.empty)))).2).2).1) == ((((v3.getD (0 + v1.toNat) (0, (0, (0, ByteArray.empty)))).2).2).1)) && (((((v2.getD (0 + v1.toNat) (0, (0, (0, ByteArray.empty)))).2).2).2).toList == ((((v3.getD (0 + v1.toNat) (0, (0, (0, ByteArray.empty)))).2).2).2).toList))))) (K0) (l4 v2 v3 K0 K1 k (IntKind.i64.wrap (v1 + 1)))) none) none) none) none) (K1))) k d K = roundOf Tryd.prog TB14_1 (xw []) 26 2 (ltab [(4, X4)]) (mkG sh14_1_l4 [0, 1, 5] (outT [(.exit 0, []), (.ret, [4])]) (fun d K => A14_1_l4 l4 k d K) []) b14_0 (encT sh14_1_l4.vs d.1) (encH sh14_1_l4.h d.2) K := by kernel_rfl
theorem L14_1_4 (F : Nat) : LoopOK Tryd.prog (T14_1 F) (xw []) 26 2 (LT14_1 F) (G14_1_4 F F) b14_0 :=
  loopOK_of (s := sh14_1_l4) (live := [0, 1, 5]) (out := (outT [(.exit 0, []), (.ret, [4])])) (mv := []) (fun k d K => A14_1_l4 (f14_1_l4 F) k d K) F (fun d K => by kernel_rfl)  (fun k d K => Eq.mp (by kernel_rfl) (L14_1_l4g F k   (f14_1_l4 F) (G14_1_4 F F) d K))
theorem E14_1g (F : Nat)  (l4 : Y14_1_l4)  (d : sh14_1.den) (K : KF) : evBody Tryd.prog TB14_1 (xw []) 26 2 (ltab [(4, mkG sh14_1_l4 [0, 1, 5] (outT [(.exit 0, []), (.ret, [4])]) (fun d K => A14_1_l4 l4 F d K) [])]) [] code14 Tryd.f14.results.toList (encT sh14_1.vs d.1) (encH sh14_1.h d.2) K = A14_1 (fun (a1 : List (Int × (Int × (Int × ByteArray)))) (a2 : List (Int × (Int × (Int × ByteArray)))) (K0 : (Bool → Option Res)) => cond (((a1.length : Nat) : Int) != ((a2.length : Nat) : Int)) (K0 false) (l4 a1 a2 (K0 false) (K0 true) F 0)) d K := by kernel_rfl
theorem E14_1 (F : Nat) (d : sh14_1.den) (K : KF) : evBody Tryd.prog (T14_1 F) (xw []) 26 2 (LT14_1 F) [] code14 Tryd.f14.results.toList (encT sh14_1.vs d.1) (encH sh14_1.h d.2) K = A14_1 (f14_1 F) d K := Eq.mp (by kernel_rfl) (E14_1g F  (f14_1_l4 F)  d K)
theorem S14_1_ok (F : Nat) (o : Summ) (ho : SoundFn Tryd.prog 14 o) : SoundFn Tryd.prog 14 (S14_1 F o) :=
  soundFn_of (fn := Tryd.f14) (c := code14) rfl rfl (by kernel_rfl) tab_nil (by kernel_rfl) (by kernel_rfl) ho (by rw [loops14]; exact (loopsOK_cons (by kernel_rfl) (L14_1_4 F) loopsOK_nil)) (by rw [scopes14]; exact scopesOK_nil) (by rw [ranges14]; exact rangesOK_nil) (E14_1 F)
end Go.Proofs.YtlgopekjjkdkiaaDoor.X
end

section
namespace Go.Proofs.YtlgopekjjkdkiaaDoor.X
open Go Go.Proofs.YtlgopekjjkdkiaaDoor.Ev Go.Proofs
set_option linter.unusedVariables false
set_option linter.unusedSectionVars false
/-! geom.within -/
noncomputable def f45_1 {β : Type} (F : Nat) (a1 : Int) (a2 : Int) (a3 : Int) (K0 : Bool → Option β) : Option β := cond (decide (a1 ≥ a2)) (K0 (decide (a1 ≤ a3))) (K0 false)
variable [FZ]
def sh45_1 : Sh := ⟨[.lf (.int .i64), .lf (.int .i64), .lf (.int .i64)], []⟩
abbrev Y45_1 := Int → Int → Int → (Bool → Option Res) → Option Res
noncomputable def A45_1 (g : Y45_1) (d : sh45_1.den) (K : KF) : Option Res := g d.1.1 d.1.2.1 d.1.2.2.1 (fun (y0 : Bool) => K [.lf (.bool y0)] [])
noncomputable def S45_1 (F : Nat) (o : Summ) : Summ := mkS sh45_1 (fun d K => A45_1 (f45_1 F) d K) o
noncomputable def code45 : Code := bodyOf Tryd.f45
theorem scopes45 : scopesOf code45 = [] := by kernel_rfl
theorem ranges45 : rangesOf code45 = [] := by kernel_rfl
theorem loops45 : loopsOf code45 = [] := by kernel_rfl
theorem enter45 : ∀ args w, (callFunc 45 args).run Tryd.prog w = .ok (.enter 45 args) w := enter_of (fn := Tryd.f45) (by kernel_rfl) (by kernel_rfl) (by kernel_rfl)
noncomputable def T45_1 (F : Nat) : FuncId → Option Summ := tab []
noncomputable def TB45_1  : FuncId → Option Summ := tab []
noncomputable def LT45_1 (F : Nat) : Nat → Option LoopS := ltab []
theorem E45_1g (F : Nat)    (d : sh45_1.den) (K : KF) : evBody Tryd.prog TB45_1 (xw []) 15 0 (ltab []) [] code45 Tryd.f45.results.toList (encT sh45_1.vs d.1) (encH sh45_1.h d.2) K = A45_1 (fun (a1 : Int) (a2 : Int) (a3 : Int) (K0 : (Bool → Option Res)) => cond (decide (a1 ≥ a2)) (K0 (decide (a1 ≤ a3))) (K0 false)) d K := by kernel_rfl
theorem E45_1 (F : Nat) (d : sh45_1.den) (K : KF) : evBody Tryd.prog (T45_1 F) (xw []) 15 0 (LT45_1 F) [] code45 Tryd.f45.results.toList (encT sh45_1.vs d.1) (encH sh45_1.h d.2) K = A45_1 (f45_1 F) d K := Eq.mp (by kernel_rfl) (E45_1g F    d K)
theorem S45_1_ok (F : Nat) (o : Summ) (ho : SoundFn Tryd.prog 45 o) : SoundFn Tryd.prog 45 (S45_1 F o) :=
  soundFn_of (fn := Tryd.f45) (c := code45) rfl rfl (by kernel_rfl) tab_nil (by kernel_rfl) (by kernel_rfl) ho (by rw [loops45]; exact loopsOK_nil) (by rw [scopes45]; exact scopesOK_nil) (by rw [ranges45]; exact rangesOK_nil) (E45_1 F)
end Go.Proofs.YtlgopekjjkdkiaaDoor.X
end

section
namespace Go.Proofs.YtlgopekjjkdkiaaDoor.X
open Go Go.Proofs.YtlgopekjjkdkiaaDoor.Ev Go.Proofs
set_option linter.unusedVariables false
set_option linter.unusedSectionVars false
/-! geom.Right -/
noncomputable def f27_1 {β : Type} (F : Nat) (a1 : Int) (a2 : Int) (a3 : Int) (a4 : Int) (K0 : Bool → Option β) : Option β := f45_1 F a1 1 128 (fun x1 => cond x1 (f45_1 F a2 2 4 (fun x2 => cond x2 (f45_1 F a3 0 64 (fun x3 => cond x3 (f45_1 F a4 1 320 (fun x4 => K0 x4) ) (K0 false)) ) (K0 false)) ) (K0 false)) 
variable [FZ]
def sh27_1 : Sh := ⟨[.agg [.int .i64, .int .i64, .int .i64, .int .i64]], []⟩
abbrev Y27_1 := Int → Int → Int → Int → (Bool → Option Res) → Option Res
noncomputable def A27_1 (g : Y27_1) (d : sh27_1.den) (K : KF) : Option Res := g d.1.1.1 d.1.1.2.1 d.1.1.2.2.1 d.1.1.2.2.2.1 (fun (y0 : Bool) => K [.lf (.bool y0)] [])
noncomputable def S27_1 (F : Nat) (o : Summ) : Summ := mkS sh27_1 (fun d K => A27_1 (f27_1 F) d K) o
noncomputable def code27 : Code := bodyOf Tryd.f27
theorem scopes27 : scopesOf code27 = [] := by kernel_rfl
theorem ranges27 : rangesOf code27 = [] := by kernel_rfl
theorem loops27 : loopsOf code27 = [] := by kernel_rfl
theorem enter27 : ∀ args w, (callFunc 27 args).run Tryd.prog w = .ok (.enter 27 args) w := enter_of (fn := Tryd.f27) (by kernel_rfl) (by kernel_rfl) (by kernel_rfl)
noncomputable def T27_1 (F : Nat) : FuncId → Option Summ := tab [(45, (S45_1 F noS))]
noncomputable def TB27_1 (c45_1 : Y45_1) : FuncId → Option Summ := tab [(45, (mkS sh45_1 (fun d K => A45_1 c45_1 d K) noS))]
noncomputable def LT27_1 (F : Nat) : Nat → Option LoopS := ltab []
theorem E27_1g (F : Nat) (c45_1 : Y45_1)   (d : sh27_1.den) (K : KF) : evBody Tryd.prog (TB27_1 c45_1) (xw []) 21 0 (ltab []) [] code27 Tryd.f27.results.toList (encT sh27_1.vs d.1) (encH sh27_1.h d.2) K = A27_1 (fun (a1 : Int) (a2 : Int) (a3 : Int) (a4 : Int) (K0 : (Bool → Option Res)) => c45_1 a1 1 128 (fun x1 => cond x1 (c45_1 a2 2 4 (fun x2 => cond x2 (c45_1 a3 0 64 (fun x3 => cond x3 (c45_1 a4 1 320 (fun x4 => K0 x4) ) (K0 false)) ) (K0 false)) ) (K0 false)) ) d K := by kernel_rfl
theorem E27_1 (F : Nat) (d : sh27_1.den) (K : KF) : evBody Tryd.prog (T27_1 F) (xw []) 21 0 (LT27_1 F) [] code27 Tryd.f27.results.toList (encT sh27_1.vs d.1) (encH sh27_1.h d.2) K = A27_1 (f27_1 F) d K := Eq.mp (by kernel_rfl) (E27_1g F (f45_1 F)   d K)
theorem S27_1_ok (F : Nat) (o : Summ) (ho : SoundFn Tryd.prog 27 o) : SoundFn Tryd.prog 27 (S27_1 F o) :=
  soundFn_of (fn := Tryd.f27) (c := code27) rfl rfl (by kernel_rfl) (tab_cons (S45_1_ok F _ (noS_sound enter45)) tab_nil) (by kernel_rfl) (by kernel_rfl) ho (by rw [loops27]; exact loopsOK_nil) (by rw [scopes27]; exact scopesOK_nil) (by rw [ranges27]; exact rangesOK_nil) (E27_1 F)
end Go.Proofs.YtlgopekjjkdkiaaDoor.X
end

section
namespace Go.Proofs.YtlgopekjjkdkiaaDoor.X
open Go Go.Proofs.YtlgopekjjkdkiaaDoor.Ev Go.Proofs
set_option linter.unusedVariables false
set_option linter.unusedSectionVars false
/-! api.Put] -/
noncomputable def f46_1 {β : Type} (F : Nat) (a1 : List (Int × ByteArray)) (K0 : Option β) : Option β := K0
variable [FZ]
def sh46_1 : Sh := ⟨[.lf (.full 0)], [some ⟨none, [.seq (.pair (.int .i64) .str) 0]⟩]⟩
abbrev Y46_1 := List (Int × ByteArray) → (Option Res) → Option Res
noncomputable def A46_1 (g : Y46_1) (d : sh46_1.den) (K : KF) : Option Res := g d.2.1.2.1 (K [.lf (.clo 63 [1])] [some ⟨d.2.1.1, [.seq (.pair (.int .i64) .str) 0 d.2.1.2.1]⟩, some ⟨false, [.full 0]⟩])
noncomputable def S46_1 (F : Nat) (o : Summ) : Summ := mkS sh46_1 (fun d K => A46_1 (f46_1 F) d K) o
noncomputable def code46 : Code := bodyOf Tryd.f46
theorem scopes46 : scopesOf code46 = [] := by kernel_rfl
theorem ranges46 : rangesOf code46 = [] := by kernel_rfl
theorem loops46 : loopsOf code46 = [] := by kernel_rfl
theorem enter46 : ∀ args w, (callFunc 46 args).run Tryd.prog w = .ok (.enter 46 args) w := enter_of (fn := Tryd.f46) (by kernel_rfl) (by kernel_rfl) (by kernel_rfl)
noncomputable def T46_1 (F : Nat) : FuncId → Option Summ := tab []
noncomputable def TB46_1  : FuncId → Option Summ := tab []
noncomputable def LT46_1 (F : Nat) : Nat → Option LoopS := ltab []
theorem E46_1g (F : Nat)    (d : sh46_1.den) (K : KF) : evBody Tryd.prog TB46_1 (xw []) 4 1 (ltab []) [] code46 Tryd.f46.results.toList (encT sh46_1.vs d.1) (encH sh46_1.h d.2) K = A46_1 (fun (a1 : List (Int × ByteArray)) (K0 : (Option Res)) => K0) d K := by kernel_rfl
theorem E46_1 (F : Nat) (d : sh46_1.den) (K : KF) : evBody Tryd.prog (T46_1 F) (xw []) 4 1 (LT46_1 F) [] code46 Tryd.f46.results.toList (encT sh46_1.vs d.1) (encH sh46_1.h d.2) K = A46_1 (f46_1 F) d K := Eq.mp (by kernel_rfl) (E46_1g F    d K)
theorem S46_1_ok (F : Nat) (o : Summ) (ho : SoundFn Tryd.prog 46 o) : SoundFn Tryd.prog 46 (S46_1 F o) :=
  soundFn_of (fn := Tryd.f46) (c := code46) rfl rfl (by kernel_rfl) tab_nil (by kernel_rfl) (by kernel_rfl) ho (by rw [loops46]; exact loopsOK_nil) (by rw [scopes46]; exact scopesOK_nil) (by rw [ranges46]; exact rangesOK_nil) (E46_1 F)
end Go.Proofs.YtlgopekjjkdkiaaDoor.X
end

section
namespace Go.Proofs.YtlgopekjjkdkiaaDoor.X
open Go Go.Proofs.YtlgopekjjkdkiaaDoor.Ev Go.Proofs
set_option linter.unusedVariables false
set_option linter.unusedSectionVars false
/-! disk.Disk).has -/
noncomputable def f64_1 {β : Type} (F : Nat) (a1 : Int) (a2 : Int) (a3 : Bool) (a4 : Int) (a5 : List ByteArray) (a6 : List (Int × ByteArray)) (K0 : Bool → Option β) : Option β := cond (decide (a1 ≥ 0)) (K0 (decide (a1 < ((a5.length : Nat) : Int)))) (K0 false)
variable [FZ]
def sh64_1 : Sh := ⟨[.lf (.ptr 0 0), .lf (.int .i64)], [some ⟨none, [.full 1, .full 2, .int .i64, .bool, .int .i64]⟩, some ⟨none, [.seq .str 0]⟩, some ⟨none, [.seq (.pair (.int .i64) .str) 0]⟩]⟩
abbrev Y64_1 := Int → Int → Bool → Int → List ByteArray → List (Int × ByteArray) → (Bool → Option Res) → Option Res
noncomputable def A64_1 (g : Y64_1) (d : sh64_1.den) (K : KF) : Option Res := g d.1.2.1 d.2.1.2.2.2.1 d.2.1.2.2.2.2.1 d.2.1.2.2.2.2.2.1 d.2.2.1.2.1 d.2.2.2.1.2.1 (fun (y0 : Bool) => K [.lf (.bool y0)] [some ⟨d.2.1.1, [.full 1, .full 2, .int .i64 d.2.1.2.2.2.1, .bool d.2.1.2.2.2.2.1, .int .i64 d.2.1.2.2.2.2.2.1]⟩, some ⟨d.2.2.1.1, [.seq .str 0 d.2.2.1.2.1]⟩, some ⟨d.2.2.2.1.1, [.seq (.pair (.int .i64) .str) 0 d.2.2.2.1.2.1]⟩])
noncomputable def S64_1 (F : Nat) (o : Summ) : Summ := mkS sh64_1 (fun d K => A64_1 (f64_1 F) d K) o
noncomputable def code64 : Code := bodyOf Tryd.f64
theorem scopes64 : scopesOf code64 = [] := by kernel_rfl
theorem ranges64 : rangesOf code64 = [] := by kernel_rfl
theorem loops64 : loopsOf code64 = [] := by kernel_rfl
theorem enter64 : ∀ args w, (callFunc 64 args).run Tryd.prog w = .ok (.enter 64 args) w := enter_of (fn := Tryd.f64) (by kernel_rfl) (by kernel_rfl) (by kernel_rfl)
noncomputable def T64_1 (F : Nat) : FuncId → Option Summ := tab []
noncomputable def TB64_1  : FuncId → Option Summ := tab []
noncomputable def LT64_1 (F : Nat) : Nat → Option LoopS := ltab []
theorem E64_1g (F : Nat)    (d : sh64_1.den) (K : KF) : evBody Tryd.prog TB64_1 (xw []) 16 3 (ltab []) [] code64 Tryd.f64.results.toList (encT sh64_1.vs d.1) (encH sh64_1.h d.2) K = A64_1 (fun (a1 : Int) (a2 : Int) (a3 : Bool) (a4 : Int) (a5 : List ByteArray) (a6 : List (Int × ByteArray)) (K0 : (Bool → Option Res)) => cond (decide (a1 ≥ 0)) (K0 (decide (a1 < ((a5.length : Nat) : Int)))) (K0 false)) d K := by kernel_rfl
theorem E64_1 (F : Nat) (d : sh64_1.den) (K : KF) : evBody Tryd.prog (T64_1 F) (xw []) 16 3 (LT64_1 F) [] code64 Tryd.f64.results.toList (encT sh64_1.vs d.1) (encH sh64_1.h d.2) K = A64_1 (f64_1 F) d K := Eq.mp (by kernel_rfl) (E64_1g F    d K)
theorem S64_1_ok (F : Nat) (o : Summ) (ho : SoundFn Tryd.prog 64 o) : SoundFn Tryd.prog 64 (S64_1 F o) :=
  soundFn_of (fn := Tryd.f64) (c := code64) rfl rfl (by kernel_rfl) tab_nil (by kernel_rfl) (by kernel_rfl) ho (by rw [loops64]; exact loopsOK_nil) (by rw [scopes64]; exact scopesOK_nil) (by rw [ranges64]; exact rangesOK_nil) (E64_1 F)
end Go.Proofs.YtlgopekjjkdkiaaDoor.X
end

section
namespace Go.Proofs.YtlgopekjjkdkiaaDoor.X
open Go Go.Proofs.YtlgopekjjkdkiaaDoor.Ev Go.Proofs
set_option linter.unusedVariables false
set_option linter.unusedSectionVars false
/-! disk.Disk).Kept -/
noncomputable def f47_1 {β : Type} (F : Nat) (a1 : Int) (a2 : Int) (a3 : Bool) (a4 : Int) (a5 : List ByteArray) (a6 : List (Int × ByteArray)) (K0 : ByteArray → Int → Option β) : Option β := f64_1 F a1 a2 a3 a4 a5 a6 (fun x1 => cond (!x1) (K0 ByteArray.empty 3) (cond (decide ((0 : Int) ≤ a1 ∧ a1 < ((a5.length : Nat) : Int))) (cond (decide (0 + a1.toNat < a5.length)) (K0 (a5.getD (0 + a1.toNat) ByteArray.empty) 0) none) none)) 
variable [FZ]
def sh47_1 : Sh := ⟨[.lf (.ptr 0 0), .lf (.int .i64)], [some ⟨none, [.full 1, .full 2, .int .i64, .bool, .int .i64]⟩, some ⟨none, [.seq .str 0]⟩, some ⟨none, [.seq (.pair (.int .i64) .str) 0]⟩]⟩
abbrev Y47_1 := Int → Int → Bool → Int → List ByteArray → List (Int × ByteArray) → (ByteArray → Int → Option Res) → Option Res
noncomputable def A47_1 (g : Y47_1) (d : sh47_1.den) (K : KF) : Option Res := g d.1.2.1 d.2.1.2.2.2.1 d.2.1.2.2.2.2.1 d.2.1.2.2.2.2.2.1 d.2.2.1.2.1 d.2.2.2.1.2.1 (fun (y0 : ByteArray) (y1 : Int) => K [.lf (.str y0), .lf (.int .i64 y1)] [some ⟨d.2.1.1, [.full 1, .full 2, .int .i64 d.2.1.2.2.2.1, .bool d.2.1.2.2.2.2.1, .int .i64 d.2.1.2.2.2.2.2.1]⟩, some ⟨d.2.2.1.1, [.seq .str 0 d.2.2.1.2.1]⟩, some ⟨d.2.2.2.1.1, [.seq (.pair (.int .i64) .str) 0 d.2.2.2.1.2.1]⟩])
noncomputable def S47_1 (F : Nat) (o : Summ) : Summ := mkS sh47_1 (fun d K => A47_1 (f47_1 F) d K) o
noncomputable def code47 : Code := bodyOf Tryd.f47
theorem scopes47 : scopesOf code47 = [] := by kernel_rfl
theorem ranges47 : rangesOf code47 = [] := by kernel_rfl
theorem loops47 : loopsOf code47 = [] := by kernel_rfl
theorem enter47 : ∀ args w, (callFunc 47 args).run Tryd.prog w = .ok (.enter 47 args) w := enter_of (fn := Tryd.f47) (by kernel_rfl) (by kernel_rfl) (by kernel_rfl)
noncomputable def T47_1 (F : Nat) : FuncId → Option Summ := tab [(64, (S64_1 F noS))]
noncomputable def TB47_1 (c64_1 : Y64_1) : FuncId → Option Summ := tab [(64, (mkS sh64_1 (fun d K => A64_1 c64_1 d K) noS))]
noncomputable def LT47_1 (F : Nat) : Nat → Option LoopS := ltab []
theorem E47_1g (F : Nat) (c64_1 : Y64_1)   (d : sh47_1.den) (K : KF) : evBody Tryd.prog (TB47_1 c64_1) (xw []) 21 3 (ltab []) [] code47 Tryd.f47.results.toList (encT sh47_1.vs d.1) (encH sh47_1.h d.2) K = A47_1 (fun (a1 : Int) (a2 : Int) (a3 : Bool) (a4 : Int) (a5 : List ByteArray) (a6 : List (Int × ByteArray)) (K0 : (ByteArray → Int → Option Res)) => c64_1 a1 a2 a3 a4 a5 a6 (fun x1 => cond (!x1) (K0 ByteArray.empty 3) (cond (decide ((0 : Int) ≤ a1 ∧ a1 < ((a5.length : Nat) : Int))) (cond (decide (0 + a1.toNat < a5.length)) (K0 (a5.getD (0 + a1.toNat) ByteArray.empty) 0) none) none)) ) d K := by kernel_rfl
theorem E47_1 (F : Nat) (d : sh47_1.den) (K : KF) : evBody Tryd.prog (T47_1 F) (xw []) 21 3 (LT47_1 F) [] code47 Tryd.f47.results.toList (encT sh47_1.vs d.1) (encH sh47_1.h d.2) K = A47_1 (f47_1 F) d K := Eq.mp (by kernel_rfl) (E47_1g F (f64_1 F)   d K)
theorem S47_1_ok (F : Nat) (o : Summ) (ho : SoundFn Tryd.prog 47 o) : SoundFn Tryd.prog 47 (S47_1 F o) :=
  soundFn_of (fn := Tryd.f47) (c := code47) rfl rfl (by kernel_rfl) (tab_cons (S64_1_ok F _ (noS_sound enter64)) tab_nil) (by kernel_rfl) (by kernel_rfl) ho (by rw [loops47]; exact loopsOK_nil) (by rw [scopes47]; exact scopesOK_nil) (by rw [ranges47]; exact rangesOK_nil) (E47_1 F)
end Go.Proofs.YtlgopekjjkdkiaaDoor.X
end

section
namespace Go.Proofs.YtlgopekjjkdkiaaDoor.X
open Go Go.Proofs.YtlgopekjjkdkiaaDoor.Ev Go.Proofs
set_option linter.unusedVariables false
set_option linter.unusedSectionVars false
/-! disk.Disk).Read -/
noncomputable def f29_1_r2000006_l1 {β : Type} (F : Nat) (v10 : Int) (v11 : Bool) (v12 : Int) (v13 : List ByteArray) (v14 : List (Int × ByteArray)) (v15 : Int) (v16 : ByteArray) (v17 : Int) (K0 : ByteArray → Int → ByteArray → Option β) (K1 : Option β) : Nat → Int → Option β
  | 0, _ => none
  | k + 1, v9 => cond (decide (v9 ≥ 0)) (cond (decide ((0 : Int) ≤ v9 ∧ v9 < ((v14.length : Nat) : Int))) (cond (decide (0 + v9.toNat < v14.length)) (cond (((v14.getD (0 + v9.toNat) (0, ByteArray.empty)).1) == v15) (K0 ((v14.getD (0 + v9.toNat) (0, ByteArray.empty)).2) ((v14.getD (0 + v9.toNat) (0, ByteArray.empty)).1) ((v14.getD (0 + v9.toNat) (0, ByteArray.empty)).2)) (f29_1_r2000006_l1 F v10 v11 v12 v13 v14 v15 v16 v17 K0 K1 k (IntKind.i64.wrap (v9 - 1)))) none) none) (K1)
noncomputable def f29_1_r2000006 {β : Type} (F : Nat) (v1 : Int) (v2 : Bool) (v3 : Int) (v4 : List ByteArray) (v5 : List (Int × ByteArray)) (v6 : Int) (v7 : ByteArray) (v8 : Int) (K0 : ByteArray → Int → ByteArray → Option β) (K1 : Option β) : Option β := f29_1_r2000006_l1 F v1 v2 v3 v4 v5 v6 v7 v8 (fun x18 x19 x20 => K0 x18 x19 x20) (K1) F (IntKind.i64.wrap (((v5.length : Nat) : Int) - 1))
noncomputable def f29_1 {β : Type} (F : Nat) (a1 : Int) (a2 : Int) (a3 : Bool) (a4 : Int) (a5 : List ByteArray) (a6 : List (Int × ByteArray)) (K0 : ByteArray → Int → Option β) : Option β := cond a3 (K0 ByteArray.empty 5) (f46_1 F a6 (f29_1_r2000006 F a2 a3 a4 a5 a6 a1 ByteArray.empty 0 (fun x21 x22 x23 => K0 x21 0) (f47_1 F a1 a2 a3 a4 a5 a6 (fun x24 x25 => K0 x24 x25) ) ) )
variable [FZ]
def sh29_1 : Sh := ⟨[.lf (.ptr 0 0), .lf (.int .i64)], [some ⟨none, [.full 1, .full 2, .int .i64, .bool, .int .i64]⟩, some ⟨none, [.seq .str 0]⟩, some ⟨none, [.seq (.pair (.int .i64) .str) 0]⟩]⟩
abbrev Y29_1 := Int → Int → Bool → Int → List ByteArray → List (Int × ByteArray) → (ByteArray → Int → Option Res) → Option Res
noncomputable def A29_1 (g : Y29_1) (d : sh29_1.den) (K : KF) : Option Res := g d.1.2.1 d.2.1.2.2.2.1 d.2.1.2.2.2.2.1 d.2.1.2.2.2.2.2.1 d.2.2.1.2.1 d.2.2.2.1.2.1 (fun (y0 : ByteArray) (y1 : Int) => K [.lf (.str y0), .lf (.int .i64 y1)] [some ⟨d.2.1.1, [.full 1, .full 2, .int .i64 d.2.1.2.2.2.1, .bool d.2.1.2.2.2.2.1, .int .i64 d.2.1.2.2.2.2.2.1]⟩, some ⟨d.2.2.1.1, [.seq .str 0 d.2.2.1.2.1]⟩, some ⟨d.2.2.2.1.1, [.seq (.pair (.int .i64) .str) 0 d.2.2.2.1.2.1]⟩])
noncomputable def S29_1 (F : Nat) (o : Summ) : Summ := mkS sh29_1 (fun d K => A29_1 (f29_1 F) d K) o
noncomputable def code29 : Code := bodyOf Tryd.f29
noncomputable def rg29_0 : Code := cB (cR (cL (cR (cR (code29)))))
theorem scopes29 : scopesOf code29 = [] := by kernel_rfl
theorem ranges29 : rangesOf code29 = [.rangeFunc (rgG rg29_0) (rgP rg29_0) (rgX rg29_0) (rgY rg29_0)] := by kernel_rfl
theorem loops29 : loopsOf code29 = [] := by kernel_rfl
theorem enter29 : ∀ args w, (callFunc 29 args).run Tryd.prog w = .ok (.enter 29 args) w := enter_of (fn := Tryd.f29) (by kernel_rfl) (by kernel_rfl) (by kernel_rfl)
noncomputable def T29_1 (F : Nat) : FuncId → Option Summ := tab [(46, (S46_1 F noS)), (47, (S47_1 F noS))]
noncomputable def TB29_1 (c46_1 : Y46_1) (c47_1 : Y47_1) : FuncId → Option Summ := tab [(46, (mkS sh46_1 (fun d K => A46_1 c46_1 d K) noS)), (47, (mkS sh47_1 (fun d K => A47_1 c47_1 d K) noS))]
def sh29_1_l2000006 : Sh := ⟨[.lf (.ptr 0 0), .lf (.ptr 3 0), .lf (.ptr 4 0), .lf (.ptr 5 0), .lf (.clo 63 [6])], [some ⟨none, [.full 1, .full 2, .int .i64, .bool, .int .i64]⟩, some ⟨none, [.seq .str 0]⟩, some ⟨none, [.seq (.pair (.int .i64) .str) 0]⟩, some ⟨some false, [.int .i64]⟩, some ⟨some false, [.str]⟩, some ⟨some false, [.int .i64]⟩, some ⟨some false, [.full 2]⟩]⟩
noncomputable def G29_1_2000006 (F k : Nat) : LoopS := mkG sh29_1_l2000006 [0, 3, 4, 5, 20] (outT [(.normal, [0, 3, 4, 5]), (.ret, [4, 5])]) (fun d K => f29_1_r2000006 F d.2.1.2.2.2.1 d.2.1.2.2.2.2.1 d.2.1.2.2.2.2.2.1 d.2.2.1.2.1 d.2.2.2.1.2.1 d.2.2.2.2.1.2.1 d.2.2.2.2.2.1.2.1 d.2.2.2.2.2.2.1.2.1 (fun (y6 : ByteArray) (y8 : Int) (y9 : ByteArray) => K .ret [.tv (.lf (.ptr 4 0)), .tv (.lf (.ptr 5 0))] [some ⟨d.2.1.1, [.full 1, .full 2, .int .i64 d.2.1.2.2.2.1, .bool d.2.1.2.2.2.2.1, .int .i64 d.2.1.2.2.2.2.2.1]⟩, some ⟨d.2.2.1.1, [.seq .str 0 d.2.2.1.2.1]⟩, some ⟨d.2.2.2.1.1, [.seq (.pair (.int .i64) .str) 0 d.2.2.2.1.2.1]⟩, some ⟨false, [.int .i64 d.2.2.2.2.1.2.1]⟩, some ⟨false, [.str y6]⟩, some ⟨false, [.int .i64 0]⟩, some ⟨false, [.full 2]⟩, none, none, none, none, some ⟨false, [.int .i64 y8, .str y9]⟩]) (K .normal [.tv (.lf (.ptr 0 0)), .tv (.lf (.ptr 3 0)), .tv (.lf (.ptr 4 0)), .tv (.lf (.ptr 5 0))] [some ⟨d.2.1.1, [.full 1, .full 2, .int .i64 d.2.1.2.2.2.1, .bool d.2.1.2.2.2.2.1, .int .i64 d.2.1.2.2.2.2.2.1]⟩, some ⟨d.2.2.1.1, [.seq .str 0 d.2.2.1.2.1]⟩, some ⟨d.2.2.2.1.1, [.seq (.pair (.int .i64) .str) 0 d.2.2.2.1.2.1]⟩, some ⟨false, [.int .i64 d.2.2.2.2.1.2.1]⟩, some ⟨false, [.str d.2.2.2.2.2.1.2.1]⟩, some ⟨false, [.int .i64 d.2.2.2.2.2.2.1.2.1]⟩, some ⟨false, [.full 2]⟩, none, none, none, none])) []
noncomputable def LT29_1 (F : Nat) : Nat → Option LoopS := ltab [(2000006, G29_1_2000006 F F)]
noncomputable def ic29_1_2000006 : Code := bodyOf Tryd.f63
noncomputable def ic29_1_2000006_b0 : Code := cB (cB (cR (ic29_1_2000006)))
theorem ic29_1_2000006_loops : loopsOf ic29_1_2000006 = [ic29_1_2000006_b0] := by kernel_rfl
theorem ic29_1_2000006_scopes : scopesOf ic29_1_2000006 = [] := by kernel_rfl
def sh29_1_r2000006_l1 : Sh := ⟨[.lf (.yld 7), .lf (.ptr 6 0), .lf (.int .i64)], [some ⟨none, [.full 1, .full 2, .int .i64, .bool, .int .i64]⟩, some ⟨none, [.seq .str 0]⟩, some ⟨none, [.seq (.pair (.int .i64) .str) 0]⟩, some ⟨some false, [.int .i64]⟩, some ⟨some false, [.str]⟩, some ⟨some false, [.int .i64]⟩, some ⟨some false, [.full 2]⟩, some ⟨some false, []⟩, none, none, some ⟨some false, []⟩]⟩
noncomputable def GI29_1_2000006_1 (F : Nat) (d : sh29_1_l2000006.den) (k : Nat) : LoopS := mkG sh29_1_r2000006_l1 [0, 1, 3] (outT [(.exit 0, []), (.ret, [])]) (fun e K => f29_1_r2000006_l1 F e.2.1.2.2.2.1 e.2.1.2.2.2.2.1 e.2.1.2.2.2.2.2.1 e.2.2.1.2.1 e.2.2.2.1.2.1 e.2.2.2.2.1.2.1 e.2.2.2.2.2.1.2.1 e.2.2.2.2.2.2.1.2.1 (fun (y6 : ByteArray) (y8 : Int) (y9 : ByteArray) => K .ret [] [some ⟨e.2.1.1, [.full 1, .full 2, .int .i64 e.2.1.2.2.2.1, .bool e.2.1.2.2.2.2.1, .int .i64 e.2.1.2.2.2.2.2.1]⟩, some ⟨e.2.2.1.1, [.seq .str 0 e.2.2.1.2.1]⟩, some ⟨e.2.2.2.1.1, [.seq (.pair (.int .i64) .str) 0 e.2.2.2.1.2.1]⟩, some ⟨false, [.int .i64 e.2.2.2.2.1.2.1]⟩, some ⟨false, [.str y6]⟩, some ⟨false, [.int .i64 0]⟩, some ⟨false, [.full 2]⟩, none, none, some ⟨false, []⟩, some ⟨false, []⟩, some ⟨false, [.int .i64 y8, .str y9]⟩]) (K (.exit 0) [] [some ⟨e.2.1.1, [.full 1, .full 2, .int .i64 e.2.1.2.2.2.1, .bool e.2.1.2.2.2.2.1, .int .i64 e.2.1.2.2.2.2.2.1]⟩, some ⟨e.2.2.1.1, [.seq .str 0 e.2.2.1.2.1]⟩, some ⟨e.2.2.2.1.1, [.seq (.pair (.int .i64) .str) 0 e.2.2.2.1.2.1]⟩, some ⟨false, [.int .i64 e.2.2.2.2.1.2.1]⟩, some ⟨false, [.str e.2.2.2.2.2.1.2.1]⟩, some ⟨false, [.int .i64 e.2.2.2.2.2.2.1.2.1]⟩, some ⟨false, [.full 2]⟩, some ⟨false, []⟩, none, none, some ⟨false, []⟩]) k e.1.2.2.1) []
noncomputable def it29_1_2000006 (F : Nat) (d : sh29_1_l2000006.den) : Nat → Option LoopS := ltab [(1, GI29_1_2000006_1 F d F)]
theorem L29_1_r2000006_l1g (F k : Nat) (d : sh29_1_l2000006.den) (c46_1 : Y46_1) (c47_1 : Y47_1)  (l1 : Int → Bool → Int → List ByteArray → List (Int × ByteArray) → Int → ByteArray → Int → (ByteArray → Int → ByteArray → Option Res) → (Option Res) → Nat → Int → Option Res) (X1 : LoopS) (e : sh29_1_r2000006_l1.den) (K : KL) : (fun (v10 : Int) (v11 : Bool) (v12 : Int) (v13 : List ByteArray) (v14 : List (Int × ByteArray)) (v15 : Int) (v16 : ByteArray) (v17 : Int) (K0 : (ByteArray → Int → ByteArray → Option Res)) (K1 : (Option Res)) (k : Nat) (v9 : Int) => cond (decide (v9 ≥ 0)) (cond (decide ((0 : Int) ≤ v9 ∧ v9 < ((v14.length : Nat) : Int))) (cond (decide (0 + v9.toNat < v14.length)) (cond (((v14.getD (0 + v9.toNat) (0, ByteArray.empty)).1) == v15) (K0 ((v14.getD (0 + v9.toNat) (0, ByteArray.empty)).2) ((v14.getD (0 + v9.toNat) (0, ByteArray.empty)).1) ((v14.getD (0 + v9.toNat) (0, ByteArray.empty)).2)) (l1 v10 v11 v12 v13 v14 v15 v16 v17 K0 K1 k (IntKind.i64.wrap (v9 - 1)))) none) none) (K1)) e.2.1.2.2.2.1 e.2.1.2.2.2.2.1 e.2.1.2.2.2.2.2.1 e.2.2.1.2.1 e.2.2.2.1.2.1 e.2.2.2.2.1.2.1 e.2.2.2.2.2.1.2.1 e.2.2.2.2.2.2.1.2.1 (fun (y6 : ByteArray) (y8 : Int) (y9 : ByteArray) => K .ret [] [some ⟨e.2.1.1, [.full 1, .full 2, .int .i64 e.2.1.2.2.2.1, .bool e.2.1.2.2.2.2.1, .int .i64 e.2.1.2.2.2.2.2.1]⟩, some ⟨e.2.2.1.1, [.seq .str 0 e.2.2.1.2.1]⟩, some ⟨e.2.2.2.1.1, [.seq (.pair (.int .i64) .str) 0 e.2.2.2.1.2.1]⟩, some ⟨false, [.int .i64 e.2.2.2.2.1.2.1]⟩, some ⟨false, [.str y6]⟩, some ⟨false, [.int .i64 0]⟩, some ⟨false, [.full 2]⟩, none, none, some ⟨false, []⟩, some ⟨false, []⟩, some ⟨false, [.int .i64 y8, .str y9]⟩]) (K (.exit 0) [] [some ⟨e.2.1.1, [.full 1, .full 2, .int .i64 e.2.1.2.2.2.1, .bool e.2.1.2.2.2.2.1, .int .i64 e.2.1.2.2.2.2.2.1]⟩, some ⟨e.2.2.1.1, [.seq .str 0 e.2.2.1.2.1]⟩, some ⟨e.2.2.2.1.1, [.seq (.pair (.int .i64) .str) 0 e.2.2.2.1.2.1]⟩, some ⟨false, [.int .i64 e.2.2.2.2.1.2.1]⟩, some ⟨false, [.str e.2.2.2.2.2.1.2.1]⟩, some ⟨false, [.int .i64 e.2.2.2.2.2.2.1.2.1]⟩, some ⟨false, [.full 2]⟩, some ⟨false, []⟩, none, none, some ⟨false, []⟩]) k e.1.2.2.1 = roundOf Tryd.prog (TB29_1 c46_1 c47_1) ⟨[], false, some (yieldOf Tryd.prog (TB29_1 c46_1 c47_1) [] 34 noLT (mkEnv 34 [0, 3, 4, 5, 20] (avsOf (encT sh29_1_l2000006.vs d.1))) (rgP rg29_0).toList (rgX rg29_0) (rgY rg29_0) .ret 7)⟩ 19 11 (ltab [(1, X1)]) (mkG sh29_1_r2000006_l1 [0, 1, 3] (outT [(.exit 0, []), (.ret, [])]) (fun e K => l1 e.2.1.2.2.2.1 e.2.1.2.2.2.2.1 e.2.1.2.2.2.2.2.1 e.2.2.1.2.1 e.2.2.2.1.2.1 e.2.2.2.2.1.2.1 e.2.2.2.2.2.1.2.1 e.2.2.2.2.2.2.1.2.1 (fun (y6 : ByteArray) (y8 : Int) (y9 : ByteArray) => K .ret [] [some ⟨e.2.1.1, [.full 1, .full 2, .int .i64 e.2.1.2.2.2.1, .bool e.2.1.2.2.2.2.1, .int .i64 e.2.1.2.2.2.2.2.1]⟩, some ⟨e.2.2.1.1, [.seq .str 0 e.2.2.1.2.1]⟩, some ⟨e.2.2.2.1.1, [.seq (.pair (.int .i64) .str) 0 e.2.2.2.1.2.1]⟩, some ⟨false, [.int .i64 e.2.2.2.2.1.2.1]⟩, some ⟨false, [.str y6]⟩, some ⟨false, [.int .i64 0]⟩, some ⟨false, [.full 2]⟩, none, none, some ⟨false, []⟩, some ⟨false, []⟩, some ⟨false, [.int .i64 y8, .str y9]⟩]) (K (.exit 0) [] [some ⟨e.2.1.1, [.full 1, .full 2, .int .i64 e.2.1.2.2.2.1, .bool e.2.1.2.2.2.2.1, .int .i64 e.2.1.2.2.2.2.2.1]⟩, some ⟨e.2.2.1.1, [.seq .str 0 e.2.2.1.2.1]⟩, some ⟨e.2.2.2.1.1, [.seq (.pair (.int .i64) .str) 0 e.2.2.2.1.2.1]⟩, some ⟨false, [.int .i64 e.2.2.2.2.1.2.1]⟩, some ⟨false, [.str e.2.2.2.2.2.1.2.1]⟩, some ⟨false, [.int .i64 e.2.2.2.2.2.2.1.2.1]⟩, some ⟨false, [.full 2]⟩, some ⟨false, []⟩, none, none, some ⟨false, []⟩]) k e.1.2.2.1) []) ic29_1_2000006_b0 (encT sh29_1_r2000006_l1.vs e.1) (encH sh29_1_r2000006_l1.h e.2) K := by kernel_rfl
theorem LI29_1_2000006_1 (F : Nat) (d : sh29_1_l2000006.den) : LoopOK Tryd.prog (T29_1 F) ⟨[], false, some (yieldOf Tryd.prog (T29_1 F) [] 34 noLT (mkEnv 34 [0, 3, 4, 5, 20] (avsOf (encT sh29_1_l2000006.vs d.1))) (rgP rg29_0).toList (rgX rg29_0) (rgY rg29_0) .ret 7)⟩ 19 11 (it29_1_2000006 F d) (GI29_1_2000006_1 F d F) ic29_1_2000006_b0 :=
  loopOK_of (s := sh29_1_r2000006_l1) (live := [0, 1, 3]) (out := (outT [(.exit 0, []), (.ret, [])])) (mv := []) (fun k e K => f29_1_r2000006_l1 F e.2.1.2.2.2.1 e.2.1.2.2.2.2.1 e.2.1.2.2.2.2.2.1 e.2.2.1.2.1 e.2.2.2.1.2.1 e.2.2.2.2.1.2.1 e.2.2.2.2.2.1.2.1 e.2.2.2.2.2.2.1.2.1 (fun (y6 : ByteArray) (y8 : Int) (y9 : ByteArray) => K .ret [] [some ⟨e.2.1.1, [.full 1, .full 2, .int .i64 e.2.1.2.2.2.1, .bool e.2.1.2.2.2.2.1, .int .i64 e.2.1.2.2.2.2.2.1]⟩, some ⟨e.2.2.1.1, [.seq .str 0 e.2.2.1.2.1]⟩, some ⟨e.2.2.2.1.1, [.seq (.pair (.int .i64) .str) 0 e.2.2.2.1.2.1]⟩, some ⟨false, [.int .i64 e.2.2.2.2.1.2.1]⟩, some ⟨false, [.str y6]⟩, some ⟨false, [.int .i64 0]⟩, some ⟨false, [.full 2]⟩, none, none, some ⟨false, []⟩, some ⟨false, []⟩, some ⟨false, [.int .i64 y8, .str y9]⟩]) (K (.exit 0) [] [some ⟨e.2.1.1, [.full 1, .full 2, .int .i64 e.2.1.2.2.2.1, .bool e.2.1.2.2.2.2.1, .int .i64 e.2.1.2.2.2.2.2.1]⟩, some ⟨e.2.2.1.1, [.seq .str 0 e.2.2.1.2.1]⟩, some ⟨e.2.2.2.1.1, [.seq (.pair (.int .i64) .str) 0 e.2.2.2.1.2.1]⟩, some ⟨false, [.int .i64 e.2.2.2.2.1.2.1]⟩, some ⟨false, [.str e.2.2.2.2.2.1.2.1]⟩, some ⟨false, [.int .i64 e.2.2.2.2.2.2.1.2.1]⟩, some ⟨false, [.full 2]⟩, some ⟨false, []⟩, none, none, some ⟨false, []⟩]) k e.1.2.2.1) F (fun e K => by kernel_rfl) (fun k e K => Eq.mp (by kernel_rfl) (L29_1_r2000006_l1g F k d (f46_1 F) (f47_1 F)  (f29_1_r2000006_l1 F) (GI29_1_2000006_1 F d F) e K))
theorem R29_1_2000006g (F : Nat) (c46_1 : Y46_1) (c47_1 : Y47_1) (l1 : Int → Bool → Int → List ByteArray → List (Int × ByteArray) → Int → ByteArray → Int → (ByteArray → Int → ByteArray → Option Res) → (Option Res) → Nat → Int → Option Res)  (d : sh29_1_l2000006.den) (K : KL) : (fun (v1 : Int) (v2 : Bool) (v3 : Int) (v4 : List ByteArray) (v5 : List (Int × ByteArray)) (v6 : Int) (v7 : ByteArray) (v8 : Int) (K0 : (ByteArray → Int → ByteArray → Option Res)) (K1 : (Option Res)) => l1 v1 v2 v3 v4 v5 v6 v7 v8 (fun x18 x19 x20 => K0 x18 x19 x20) (K1) F (IntKind.i64.wrap (((v5.length : Nat) : Int) - 1))) d.2.1.2.2.2.1 d.2.1.2.2.2.2.1 d.2.1.2.2.2.2.2.1 d.2.2.1.2.1 d.2.2.2.1.2.1 d.2.2.2.2.1.2.1 d.2.2.2.2.2.1.2.1 d.2.2.2.2.2.2.1.2.1 (fun (y6 : ByteArray) (y8 : Int) (y9 : ByteArray) => K .ret [.tv (.lf (.ptr 4 0)), .tv (.lf (.ptr 5 0))] [some ⟨d.2.1.1, [.full 1, .full 2, .int .i64 d.2.1.2.2.2.1, .bool d.2.1.2.2.2.2.1, .int .i64 d.2.1.2.2.2.2.2.1]⟩, some ⟨d.2.2.1.1, [.seq .str 0 d.2.2.1.2.1]⟩, some ⟨d.2.2.2.1.1, [.seq (.pair (.int .i64) .str) 0 d.2.2.2.1.2.1]⟩, some ⟨false, [.int .i64 d.2.2.2.2.1.2.1]⟩, some ⟨false, [.str y6]⟩, some ⟨false, [.int .i64 0]⟩, some ⟨false, [.full 2]⟩, none, none, none, none, some ⟨false, [.int .i64 y8, .str y9]⟩]) (K .normal [.tv (.lf (.ptr 0 0)), .tv (.lf (.ptr 3 0)), .tv (.lf (.ptr 4 0)), .tv (.lf (.ptr 5 0))] [some ⟨d.2.1.1, [.full 1, .full 2, .int .i64 d.2.1.2.2.2.1, .bool d.2.1.2.2.2.2.1, .int .i64 d.2.1.2.2.2.2.2.1]⟩, some ⟨d.2.2.1.1, [.seq .str 0 d.2.2.1.2.1]⟩, some ⟨d.2.2.2.1.1, [.seq (.pair (.int .i64) .str) 0 d.2.2.2.1.2.1]⟩, some ⟨false, [.int .i64 d.2.2.2.2.1.2.1]⟩, some ⟨false, [.str d.2.2.2.2.2.1.2.1]⟩, some ⟨false, [.int .i64 d.2.2.2.2.2.2.1.2.1]⟩, some ⟨false, [.full 2]⟩, none, none, none, none]) = rangeOf Tryd.prog (TB29_1 c46_1 c47_1) (xw []) 34 (mkG sh29_1_l2000006 [0, 3, 4, 5, 20] (outT [(.normal, [0, 3, 4, 5]), (.ret, [4, 5])]) (fun d K => none)) (rgG rg29_0) (rgP rg29_0).toList (rgX rg29_0) (rgY rg29_0) ⟨63, ic29_1_2000006, 19, (ltab [(1, mkG sh29_1_r2000006_l1 [0, 1, 3] (outT [(.exit 0, []), (.ret, [])]) (fun e K => l1 e.2.1.2.2.2.1 e.2.1.2.2.2.2.1 e.2.1.2.2.2.2.2.1 e.2.2.1.2.1 e.2.2.2.1.2.1 e.2.2.2.2.1.2.1 e.2.2.2.2.2.1.2.1 e.2.2.2.2.2.2.1.2.1 (fun (y6 : ByteArray) (y8 : Int) (y9 : ByteArray) => K .ret [] [some ⟨e.2.1.1, [.full 1, .full 2, .int .i64 e.2.1.2.2.2.1, .bool e.2.1.2.2.2.2.1, .int .i64 e.2.1.2.2.2.2.2.1]⟩, some ⟨e.2.2.1.1, [.seq .str 0 e.2.2.1.2.1]⟩, some ⟨e.2.2.2.1.1, [.seq (.pair (.int .i64) .str) 0 e.2.2.2.1.2.1]⟩, some ⟨false, [.int .i64 e.2.2.2.2.1.2.1]⟩, some ⟨false, [.str y6]⟩, some ⟨false, [.int .i64 0]⟩, some ⟨false, [.full 2]⟩, none, none, some ⟨false, []⟩, some ⟨false, []⟩, some ⟨false, [.int .i64 y8, .str y9]⟩]) (K (.exit 0) [] [some ⟨e.2.1.1, [.full 1, .full 2, .int .i64 e.2.1.2.2.2.1, .bool e.2.1.2.2.2.2.1, .int .i64 e.2.1.2.2.2.2.2.1]⟩, some ⟨e.2.2.1.1, [.seq .str 0 e.2.2.1.2.1]⟩, some ⟨e.2.2.2.1.1, [.seq (.pair (.int .i64) .str) 0 e.2.2.2.1.2.1]⟩, some ⟨false, [.int .i64 e.2.2.2.2.1.2.1]⟩, some ⟨false, [.str e.2.2.2.2.2.1.2.1]⟩, some ⟨false, [.int .i64 e.2.2.2.2.2.2.1.2.1]⟩, some ⟨false, [.full 2]⟩, some ⟨false, []⟩, none, none, some ⟨false, []⟩]) F e.1.2.2.1) [])]), []⟩ noLT .ret (encT sh29_1_l2000006.vs d.1) (encH sh29_1_l2000006.h d.2) K := by kernel_rfl
theorem R29_1_2000006 (F : Nat) : RangeOK Tryd.prog (xw []) 34 3 (G29_1_2000006 F F) (.rangeFunc (rgG rg29_0) (rgP rg29_0) (rgX rg29_0) (rgY rg29_0)) :=
  rangeOK_of (X := (xw [])) (jump := .ret) (fun h => by cases h) rfl rfl (by kernel_rfl) (tab_cons (S46_1_ok F _ (noS_sound enter46)) (tab_cons (S47_1_ok F _ (noS_sound enter47)) tab_nil)) (s := sh29_1_l2000006) (live := [0, 3, 4, 5, 20]) (out := (outT [(.normal, [0, 3, 4, 5]), (.ret, [4, 5])])) (fun d K => f29_1_r2000006 F d.2.1.2.2.2.1 d.2.1.2.2.2.2.1 d.2.1.2.2.2.2.2.1 d.2.2.1.2.1 d.2.2.2.1.2.1 d.2.2.2.2.1.2.1 d.2.2.2.2.2.1.2.1 d.2.2.2.2.2.2.1.2.1 (fun (y6 : ByteArray) (y8 : Int) (y9 : ByteArray) => K .ret [.tv (.lf (.ptr 4 0)), .tv (.lf (.ptr 5 0))] [some ⟨d.2.1.1, [.full 1, .full 2, .int .i64 d.2.1.2.2.2.1, .bool d.2.1.2.2.2.2.1, .int .i64 d.2.1.2.2.2.2.2.1]⟩, some ⟨d.2.2.1.1, [.seq .str 0 d.2.2.1.2.1]⟩, some ⟨d.2.2.2.1.1, [.seq (.pair (.int .i64) .str) 0 d.2.2.2.1.2.1]⟩, some ⟨false, [.int .i64 d.2.2.2.2.1.2.1]⟩, some ⟨false, [.str y6]⟩, some ⟨false, [.int .i64 0]⟩, some ⟨false, [.full 2]⟩, none, none, none, none, some ⟨false, [.int .i64 y8, .str y9]⟩]) (K .normal [.tv (.lf (.ptr 0 0)), .tv (.lf (.ptr 3 0)), .tv (.lf (.ptr 4 0)), .tv (.lf (.ptr 5 0))] [some ⟨d.2.1.1, [.full 1, .full 2, .int .i64 d.2.1.2.2.2.1, .bool d.2.1.2.2.2.2.1, .int .i64 d.2.1.2.2.2.2.2.1]⟩, some ⟨d.2.2.1.1, [.seq .str 0 d.2.2.1.2.1]⟩, some ⟨d.2.2.2.1.1, [.seq (.pair (.int .i64) .str) 0 d.2.2.2.1.2.1]⟩, some ⟨false, [.int .i64 d.2.2.2.2.1.2.1]⟩, some ⟨false, [.str d.2.2.2.2.2.1.2.1]⟩, some ⟨false, [.int .i64 d.2.2.2.2.2.2.1.2.1]⟩, some ⟨false, [.full 2]⟩, none, none, none, none])) (it29_1_2000006 F) (f := 63) (fn := Tryd.f63) (c := ic29_1_2000006) (wrI := []) (enter_of (fn := Tryd.f63) (by kernel_rfl) (by kernel_rfl) (by kernel_rfl)) (by kernel_rfl) (by kernel_rfl) (by kernel_rfl) (fun d K => Eq.mp (by kernel_rfl) (R29_1_2000006g F (f46_1 F) (f47_1 F) (f29_1_r2000006_l1 F)  d K)) (fun d => by rw [ic29_1_2000006_loops]; exact (loopsOK_cons (by kernel_rfl) (LI29_1_2000006_1 F d) loopsOK_nil)) (fun d => by rw [ic29_1_2000006_scopes]; exact scopesOK_nil) (by kernel_rfl)
theorem E29_1g (F : Nat) (c46_1 : Y46_1) (c47_1 : Y47_1) (l2000006 : Int → Bool → Int → List ByteArray → List (Int × ByteArray) → Int → ByteArray → Int → (ByteArray → Int → ByteArray → Option Res) → (Option Res) → Option Res)  (d : sh29_1.den) (K : KF) : evBody Tryd.prog (TB29_1 c46_1 c47_1) (xw []) 34 3 (ltab [(2000006, mkG sh29_1_l2000006 [0, 3, 4, 5, 20] (outT [(.normal, [0, 3, 4, 5]), (.ret, [4, 5])]) (fun d K => l2000006 d.2.1.2.2.2.1 d.2.1.2.2.2.2.1 d.2.1.2.2.2.2.2.1 d.2.2.1.2.1 d.2.2.2.1.2.1 d.2.2.2.2.1.2.1 d.2.2.2.2.2.1.2.1 d.2.2.2.2.2.2.1.2.1 (fun (y6 : ByteArray) (y8 : Int) (y9 : ByteArray) => K .ret [.tv (.lf (.ptr 4 0)), .tv (.lf (.ptr 5 0))] [some ⟨d.2.1.1, [.full 1, .full 2, .int .i64 d.2.1.2.2.2.1, .bool d.2.1.2.2.2.2.1, .int .i64 d.2.1.2.2.2.2.2.1]⟩, some ⟨d.2.2.1.1, [.seq .str 0 d.2.2.1.2.1]⟩, some ⟨d.2.2.2.1.1, [.seq (.pair (.int .i64) .str) 0 d.2.2.2.1.2.1]⟩, some ⟨false, [.int .i64 d.2.2.2.2.1.2.1]⟩, some ⟨false, [.str y6]⟩, some ⟨false, [.int .i64 0]⟩, some ⟨false, [.full 2]⟩, none, none, none, none, some ⟨false, [.int .i64 y8, .str y9]⟩]) (K .normal [.tv (.lf (.ptr 0 0)), .tv (.lf (.ptr 3 0)), .tv (.lf (.ptr 4 0)), .tv (.lf (.ptr 5 0))] [some ⟨d.2.1.1, [.full 1, .full 2, .int .i64 d.2.1.2.2.2.1, .bool d.2.1.2.2.2.2.1, .int .i64 d.2.1.2.2.2.2.2.1]⟩, some ⟨d.2.2.1.1, [.seq .str 0 d.2.2.1.2.1]⟩, some ⟨d.2.2.2.1.1, [.seq (.pair (.int .i64) .str) 0 d.2.2.2.1.2.1]⟩, some ⟨false, [.int .i64 d.2.2.2.2.1.2.1]⟩, some ⟨false, [.str d.2.2.2.2.2.1.2.1]⟩, some ⟨false, [.int .i64 d.2.2.2.2.2.2.1.2.1]⟩, some ⟨false, [.full 2]⟩, none, none, none, none])) [])]) [] code29 Tryd.f29.results.toList (encT sh29_1.vs d.1) (encH sh29_1.h d.2) K = A29_1 (fun (a1 : Int) (a2 : Int) (a3 : Bool) (a4 : Int) (a5 : List ByteArray) (a6 : List (Int × ByteArray)) (K0 : (ByteArray → Int → Option Res)) => cond a3 (K0 ByteArray.empty 5) (c46_1 a6 (l2000006 a2 a3 a4 a5 a6 a1 ByteArray.empty 0 (fun x21 x22 x23 => K0 x21 0) (c47_1 a1 a2 a3 a4 a5 a6 (fun x24 x25 => K0 x24 x25) ) ) )) d K := by kernel_rfl
theorem E29_1 (F : Nat) (d : sh29_1.den) (K : KF) : evBody Tryd.prog (T29_1 F) (xw []) 34 3 (LT29_1 F) [] code29 Tryd.f29.results.toList (encT sh29_1.vs d.1) (encH sh29_1.h d.2) K = A29_1 (f29_1 F) d K := Eq.mp (by kernel_rfl) (E29_1g F (f46_1 F) (f47_1 F) (f29_1_r2000006 F)  d K)
theorem S29_1_ok (F : Nat) (o : Summ) (ho : SoundFn Tryd.prog 29 o) : SoundFn Tryd.prog 29 (S29_1 F o) :=
  soundFn_of (fn := Tryd.f29) (c := code29) rfl rfl (by kernel_rfl) (tab_cons (S46_1_ok F _ (noS_sound enter46)) (tab_cons (S47_1_ok F _ (noS_sound enter47)) tab_nil)) (by kernel_rfl) (by kernel_rfl) ho (by rw [loops29]; exact loopsOK_nil) (by rw [scopes29]; exact scopesOK_nil) (by rw [ranges29]; exact (rangesOK_cons (by kernel_rfl) (R29_1_2000006 F) rangesOK_nil)) (E29_1 F)
end Go.Proofs.YtlgopekjjkdkiaaDoor.X
end

section
namespace Go.Proofs.YtlgopekjjkdkiaaDoor.X
open Go Go.Proofs.YtlgopekjjkdkiaaDoor.Ev Go.Proofs
set_option linter.unusedVariables false
set_option linter.unusedSectionVars false
/-! crc.entry -/
noncomputable def f84_1_l2 {β : Type} (F : Nat)  (K0 : Int → Option β) : Nat → Int → Int → Option β
  | 0, _, _ => none
  | k + 1, v1, v2 => cond (decide (v2 < 8)) (cond ((iand .u32 v1 1) == 1) (f84_1_l2 F K0 k (ixor .u32 (ishr .u32 v1 1) 2197175160) (IntKind.i64.wrap (v2 + 1))) (f84_1_l2 F K0 k (ishr .u32 v1 1) (IntKind.i64.wrap (v2 + 1)))) (K0 v1)
noncomputable def f84_1 {β : Type} (F : Nat) (a1 : Int) (K0 : Int → Option β) : Option β := f84_1_l2 F  (fun x3 => K0 x3) F a1 0
variable [FZ]
def sh84_1 : Sh := ⟨[.lf (.int .u32)], []⟩
abbrev Y84_1 := Int → (Int → Option Res) → Option Res
noncomputable def A84_1 (g : Y84_1) (d : sh84_1.den) (K : KF) : Option Res := g d.1.1 (fun (y0 : Int) => K [.lf (.int .u32 y0)] [])
noncomputable def S84_1 (F : Nat) (o : Summ) : Summ := mkS sh84_1 (fun d K => A84_1 (f84_1 F) d K) o
noncomputable def code84 : Code := bodyOf Tryd.f84
noncomputable def b84_0 : Code := cB (cB (cR (cL (cR (code84)))))
theorem scopes84 : scopesOf code84 = [] := by kernel_rfl
theorem ranges84 : rangesOf code84 = [] := by kernel_rfl
theorem loops84 : loopsOf code84 = [b84_0] := by kernel_rfl
theorem enter84 : ∀ args w, (callFunc 84 args).run Tryd.prog w = .ok (.enter 84 args) w := enter_of (fn := Tryd.f84) (by kernel_rfl) (by kernel_rfl) (by kernel_rfl)
noncomputable def T84_1 (F : Nat) : FuncId → Option Summ := tab []
noncomputable def TB84_1  : FuncId → Option Summ := tab []
def sh84_1_l2 : Sh := ⟨[.lf (.int .u32), .lf (.int .i64)], []⟩
abbrev Y84_1_l2 := (Int → Option Res) → Nat → Int → Int → Option Res
noncomputable def A84_1_l2 (g : Y84_1_l2) (k : Nat) (d : sh84_1_l2.den) (K : KL) : Option Res := g (fun (y0 : Int) => K (.exit 0) [.tv (.lf (.int .u32 y0))] []) k d.1.1 d.1.2.1
noncomputable def G84_1_2 (F k : Nat) : LoopS := mkG sh84_1_l2 [0, 4] (outT [(.exit 0, [0])]) (fun d K => A84_1_l2 (f84_1_l2 F) k d K) []
noncomputable def LT84_1 (F : Nat) : Nat → Option LoopS := ltab [(2, G84_1_2 F F)]
theorem L84_1_l2g (F k : Nat)   (l2 : Y84_1_l2) (X2 : LoopS) (d : sh84_1_l2.den) (K : KL) : A84_1_l2 ((fun (K0 : (Int → Option Res)) (k : Nat) (v1 : Int) (v2 : Int) => cond (decide (v2 < 8)) (cond ((iand .u32 v1 1) == 1) (l2 K0 k (ixor .u32 (ishr .u32 v1 1) 2197175160) (IntKind.i64.wrap (v2 + 1))) (l2 K0 k (ishr .u32 v1 1) (IntKind.i64.wrap (v2 + 1)))) (K0 v1))) k d K = roundOf Tryd.prog TB84_1 (xw []) 16 0 (ltab [(2, X2)]) (mkG sh84_1_l2 [0, 4] (outT [(.exit 0, [0])]) (fun d K => A84_1_l2 l2 k d K) []) b84_0 (encT sh84_1_l2.vs d.1) (encH sh84_1_l2.h d.2) K := by kernel_rfl
theorem L84_1_2 (F : Nat) : LoopOK Tryd.prog (T84_1 F) (xw []) 16 0 (LT84_1 F) (G84_1_2 F F) b84_0 :=
  loopOK_of (s := sh84_1_l2) (live := [0, 4]) (out := (outT [(.exit 0, [0])])) (mv := []) (fun k d K => A84_1_l2 (f84_1_l2 F) k d K) F (fun d K => by kernel_rfl)  (fun k d K => Eq.mp (by kernel_rfl) (L84_1_l2g F k   (f84_1_l2 F) (G84_1_2 F F) d K))
theorem E84_1g (F : Nat)  (l2 : Y84_1_l2)  (d : sh84_1.den) (K : KF) : evBody Tryd.prog TB84_1 (xw []) 16 0 (ltab [(2, mkG sh84_1_l2 [0, 4] (outT [(.exit 0, [0])]) (fun d K => A84_1_l2 l2 F d K) [])]) [] code84 Tryd.f84.results.toList (encT sh84_1.vs d.1) (encH sh84_1.h d.2) K = A84_1 (fun (a1 : Int) (K0 : (Int → Option Res)) => l2  (fun x3 => K0 x3) F a1 0) d K := by kernel_rfl
theorem E84_1 (F : Nat) (d : sh84_1.den) (K : KF) : evBody Tryd.prog (T84_1 F) (xw []) 16 0 (LT84_1 F) [] code84 Tryd.f84.results.toList (encT sh84_1.vs d.1) (encH sh84_1.h d.2) K = A84_1 (f84_1 F) d K := Eq.mp (by kernel_rfl) (E84_1g F  (f84_1_l2 F)  d K)
theorem S84_1_ok (F : Nat) (o : Summ) (ho : SoundFn Tryd.prog 84 o) : SoundFn Tryd.prog 84 (S84_1 F o) :=
  soundFn_of (fn := Tryd.f84) (c := code84) rfl rfl (by kernel_rfl) tab_nil (by kernel_rfl) (by kernel_rfl) ho (by rw [loops84]; exact (loopsOK_cons (by kernel_rfl) (L84_1_2 F) loopsOK_nil)) (by rw [scopes84]; exact scopesOK_nil) (by rw [ranges84]; exact rangesOK_nil) (E84_1 F)
end Go.Proofs.YtlgopekjjkdkiaaDoor.X
end

section
namespace Go.Proofs.YtlgopekjjkdkiaaDoor.X
open Go Go.Proofs.YtlgopekjjkdkiaaDoor.Ev Go.Proofs
set_option linter.unusedVariables false
set_option linter.unusedSectionVars false
/-! crc.table -/
noncomputable def f80_1_l3 {β : Type} (F : Nat) (v2 : List Int) (K0 : List Int → Option β) : Nat → Int → List Int → Option β
  | 0, _, _ => none
  | k + 1, v1, v3 => cond (decide (v1 < 256)) (f84_1 F (IntKind.u32.wrap v1) (fun x4 => cond (decide ((0 : Int) ≤ v1 ∧ v1 < 256)) (cond (decide (v1.toNat < v3.length)) (f80_1_l3 F v2 K0 k (IntKind.i64.wrap (v1 + 1)) (v3.set v1.toNat x4)) none) none) ) (K0 v3)
noncomputable def f80_1 {β : Type} (F : Nat)  (K0 : List Int → Option β) : Option β := f80_1_l3 F [0, 0, 0, 0, 0, 0, 0, 0, 0, 0, 0, 0, 0, 0, 0, 0, 0, 0, 0, 0, 0, 0, 0, 0, 0, 0, 0, 0, 0, 0, 0, 0, 0, 0, 0, 0, 0, 0, 0, 0, 0, 0, 0, 0, 0, 0, 0, 0, 0, 0, 0, 0, 0, 0, 0, 0, 0, 0, 0, 0, 0, 0, 0, 0, 0, 0, 0, 0, 0, 0, 0, 0, 0, 0, 0, 0, 0, 0, 0, 0, 0, 0, 0, 0, 0, 0, 0, 0, 0, 0, 0, 0, 0, 0, 0, 0, 0, 0, 0, 0, 0, 0, 0, 0, 0, 0, 0, 0, 0, 0, 0, 0, 0, 0, 0, 0, 0, 0, 0, 0, 0, 0, 0, 0, 0, 0, 0, 0, 0, 0, 0, 0, 0, 0, 0, 0, 0, 0, 0, 0, 0, 0, 0, 0, 0, 0, 0, 0, 0, 0, 0, 0, 0, 0, 0, 0, 0, 0, 0, 0, 0, 0, 0, 0, 0, 0, 0, 0, 0, 0, 0, 0, 0, 0, 0, 0, 0, 0, 0, 0, 0, 0, 0, 0, 0, 0, 0, 0, 0, 0, 0, 0, 0, 0, 0, 0, 0, 0, 0, 0, 0, 0, 0, 0, 0, 0, 0, 0, 0, 0, 0, 0, 0, 0, 0, 0, 0, 0, 0, 0, 0, 0, 0, 0, 0, 0, 0, 0, 0, 0, 0, 0, 0, 0, 0, 0, 0, 0, 0, 0, 0, 0, 0, 0, 0, 0, 0, 0, 0, 0, 0, 0, 0, 0, 0, 0] (fun x5 => K0 x5) F 0 [0, 0, 0, 0, 0, 0, 0, 0, 0, 0, 0, 0, 0, 0, 0, 0, 0, 0, 0, 0, 0, 0, 0, 0, 0, 0, 0, 0, 0, 0, 0, 0, 0, 0, 0, 0, 0, 0, 0, 0, 0, 0, 0, 0, 0, 0, 0, 0, 0, 0, 0, 0, 0, 0, 0, 0, 0, 0, 0, 0, 0, 0, 0, 0, 0, 0, 0, 0, 0, 0, 0, 0, 0, 0, 0, 0, 0, 0, 0, 0, 0, 0, 0, 0, 0, 0, 0, 0, 0, 0, 0, 0, 0, 0, 0, 0, 0, 0, 0, 0, 0, 0, 0, 0, 0, 0, 0, 0, 0, 0, 0, 0, 0, 0, 0, 0, 0, 0, 0, 0, 0, 0, 0, 0, 0, 0, 0, 0, 0, 0, 0, 0, 0, 0, 0, 0, 0, 0, 0, 0, 0, 0, 0, 0, 0, 0, 0, 0, 0, 0, 0, 0, 0, 0, 0, 0, 0, 0, 0, 0, 0, 0, 0, 0, 0, 0, 0, 0, 0, 0, 0, 0, 0, 0, 0, 0, 0, 0, 0, 0, 0, 0, 0, 0, 0, 0, 0, 0, 0, 0, 0, 0, 0, 0, 0, 0, 0, 0, 0, 0, 0, 0, 0, 0, 0, 0, 0, 0, 0, 0, 0, 0, 0, 0, 0, 0, 0, 0, 0, 0, 0, 0, 0, 0, 0, 0, 0, 0, 0, 0, 0, 0, 0, 0, 0, 0, 0, 0, 0, 0, 0, 0, 0, 0, 0, 0, 0, 0, 0, 0, 0, 0, 0, 0, 0, 0]
variable [FZ]
def sh80_1 : Sh := ⟨[], []⟩
abbrev Y80_1 := (List Int → Option Res) → Option Res
noncomputable def A80_1 (g : Y80_1) (d : sh80_1.den) (K : KF) : Option Res := g (fun (y0 : List Int) => K [.agg [.seq (.int .u32) 256 y0]] [])
noncomputable def S80_1 (F : Nat) (o : Summ) : Summ := mkS sh80_1 (fun d K => A80_1 (f80_1 F) d K) o
noncomputable def code80 : Code := bodyOf Tryd.f80
noncomputable def b80_0 : Code := cB (cB (cR (cL (cR (cR (code80))))))
theorem scopes80 : scopesOf code80 = [] := by kernel_rfl
theorem ranges80 : rangesOf code80 = [] := by kernel_rfl
theorem loops80 : loopsOf code80 = [b80_0] := by kernel_rfl
theorem enter80 : ∀ args w, (callFunc 80 args).run Tryd.prog w = .ok (.enter 80 args) w := enter_of (fn := Tryd.f80) (by kernel_rfl) (by kernel_rfl) (by kernel_rfl)
noncomputable def T80_1 (F : Nat) : FuncId → Option Summ := tab [(84, (S84_1 F noS))]
noncomputable def TB80_1 (c84_1 : Y84_1) : FuncId → Option Summ := tab [(84, (mkS sh84_1 (fun d K => A84_1 c84_1 d K) noS))]
def sh80_1_l3 : Sh := ⟨[.lf (.ptr 0 0), .lf (.ptr 1 0), .lf (.int .i64)], [some ⟨some false, [.seq (.int .u32) 256]⟩, some ⟨some false, [.seq (.int .u32) 256]⟩]⟩
abbrev Y80_1_l3 := List Int → (List Int → Option Res) → Nat → Int → List Int → Option Res
noncomputable def A80_1_l3 (g : Y80_1_l3) (k : Nat) (d : sh80_1_l3.den) (K : KL) : Option Res := g d.2.1.2.1 (fun (y1 : List Int) => K (.exit 0) [.tv (.lf (.ptr 0 0)), .tv (.lf (.ptr 1 0))] [some ⟨false, [.seq (.int .u32) 256 d.2.1.2.1]⟩, some ⟨false, [.seq (.int .u32) 256 y1]⟩]) k d.1.2.2.1 d.2.2.1.2.1
noncomputable def G80_1_3 (F k : Nat) : LoopS := mkG sh80_1_l3 [0, 1, 3] (outT [(.exit 0, [0, 1])]) (fun d K => A80_1_l3 (f80_1_l3 F) k d K) []
noncomputable def LT80_1 (F : Nat) : Nat → Option LoopS := ltab [(3, G80_1_3 F F)]
theorem L80_1_l3g (F k : Nat) (c84_1 : Y84_1)  (l3 : Y80_1_l3) (X3 : LoopS) (d : sh80_1_l3.den) (K : KL) : A80_1_l3 ((fun (v2 : List Int) (K0 : (List Int → Option Res)) (k : Nat) (v1 : Int) (v3 : List Int) => cond (decide (v1 < 256)) (c84_1 (IntKind.u32.wrap v1) (fun x4 => cond (decide ((0 : Int) ≤ v1 ∧ v1 < 256)) (cond (decide (v1.toNat < v3.length)) (l3 v2 K0 k (IntKind.i64.wrap (v1 + 1)) (v3.set v1.toNat x4)) none) none) ) (K0 v3))) k d K = roundOf Tryd.prog (TB80_1 c84_1) (xw []) 13 0 (ltab [(3, X3)]) (mkG sh80_1_l3 [0, 1, 3] (outT [(.exit 0, [0, 1])]) (fun d K => A80_1_l3 l3 k d K) []) b80_0 (encT sh80_1_l3.vs d.1) (encH sh80_1_l3.h d.2) K := by kernel_rfl
theorem L80_1_3 (F : Nat) : LoopOK Tryd.prog (T80_1 F) (xw []) 13 0 (LT80_1 F) (G80_1_3 F F) b80_0 :=
  loopOK_of (s := sh80_1_l3) (live := [0, 1, 3]) (out := (outT [(.exit 0, [0, 1])])) (mv := []) (fun k d K => A80_1_l3 (f80_1_l3 F) k d K) F (fun d K => by kernel_rfl)  (fun k d K => Eq.mp (by kernel_rfl) (L80_1_l3g F k (f84_1 F)  (f80_1_l3 F) (G80_1_3 F F) d K))
theorem E80_1g (F : Nat) (c84_1 : Y84_1) (l3 : Y80_1_l3)  (d : sh80_1.den) (K : KF) : evBody Tryd.prog (TB80_1 c84_1) (xw []) 13 0 (ltab [(3, mkG sh80_1_l3 [0, 1, 3] (outT [(.exit 0, [0, 1])]) (fun d K => A80_1_l3 l3 F d K) [])]) [] code80 Tryd.f80.results.toList (encT sh80_1.vs d.1) (encH sh80_1.h d.2) K = A80_1 (fun (K0 : (List Int → Option Res)) => l3 [0, 0, 0, 0, 0, 0, 0, 0, 0, 0, 0, 0, 0, 0, 0, 0, 0, 0, 0, 0, 0, 0, 0, 0, 0, 0, 0, 0, 0, 0, 0, 0, 0, 0, 0, 0, 0, 0, 0, 0, 0, 0, 0, 0, 0, 0, 0, 0, 0, 0, 0, 0, 0, 0, 0, 0, 0, 0, 0, 0, 0, 0, 0, 0, 0, 0, 0, 0, 0, 0, 0, 0, 0, 0, 0, 0, 0, 0, 0, 0, 0, 0, 0, 0, 0, 0, 0, 0, 0, 0, 0, 0, 0, 0, 0, 0, 0, 0, 0, 0, 0, 0, 0, 0, 0, 0, 0, 0, 0, 0, 0, 0, 0, 0, 0, 0, 0, 0, 0, 0, 0, 0, 0, 0, 0, 0, 0, 0, 0, 0, 0, 0, 0, 0, 0, 0, 0, 0, 0, 0, 0, 0, 0, 0, 0, 0, 0, 0, 0, 0, 0, 0, 0, 0, 0, 0, 0, 0, 0, 0, 0, 0, 0, 0, 0, 0, 0, 0, 0, 0, 0, 0, 0, 0, 0, 0, 0, 0, 0, 0, 0, 0, 0, 0, 0, 0, 0, 0, 0, 0, 0, 0, 0, 0, 0, 0, 0, 0, 0, 0, 0, 0, 0, 0, 0, 0, 0, 0, 0, 0, 0, 0, 0, 0, 0, 0, 0, 0, 0, 0, 0, 0, 0, 0, 0, 0, 0, 0, 0, 0, 0, 0, 0, 0, 0, 0, 0, 0, 0, 0, 0, 0, 0, 0, 0, 0, 0, 0, 0, 0, 0, 0, 0, 0, 0, 0] (fun x5 => K0 x5) F 0 [0, 0, 0, 0, 0, 0, 0, 0, 0, 0, 0, 0, 0, 0, 0, 0, 0, 0, 0, 0, 0, 0, 0, 0, 0, 0, 0, 0, 0, 0, 0, 0, 0, 0, 0, 0, 0, 0, 0, 0, 0, 0, 0, 0, 0, 0, 0, 0, 0, 0, 0, 0, 0, 0, 0, 0, 0, 0, 0, 0, 0, 0, 0, 0, 0, 0, 0, 0, 0, 0, 0, 0, 0, 0, 0, 0, 0, 0, 0, 0, 0, 0, 0, 0, 0, 0, 0, 0, 0, 0, 0, 0, 0, 0, 0, 0, 0, 0, 0, 0, 0, 0, 0, 0, 0, 0, 0, 0, 0, 0, 0, 0, 0, 0, 0, 0, 0, 0, 0, 0, 0, 0, 0, 0, 0, 0, 0, 0, 0, 0, 0, 0, 0, 0, 0, 0, 0, 0, 0, 0, 0, 0, 0, 0, 0, 0, 0, 0, 0, 0, 0, 0, 0, 0, 0, 0, 0, 0, 0, 0, 0, 0, 0, 0, 0, 0, 0, 0, 0, 0, 0, 0, 0, 0, 0, 0, 0, 0, 0, 0, 0, 0, 0, 0, 0, 0, 0, 0, 0, 0, 0, 0, 0, 0, 0, 0, 0, 0, 0, 0, 0, 0, 0, 0, 0, 0, 0, 0, 0, 0, 0, 0, 0, 0, 0, 0, 0, 0, 0, 0, 0, 0, 0, 0, 0, 0, 0, 0, 0, 0, 0, 0, 0, 0, 0, 0, 0, 0, 0, 0, 0, 0, 0, 0, 0, 0, 0, 0, 0, 0, 0, 0, 0, 0, 0, 0]) d K := by kernel_rfl
theorem E80_1 (F : Nat) (d : sh80_1.den) (K : KF) : evBody Tryd.prog (T80_1 F) (xw []) 13 0 (LT80_1 F) [] code80 Tryd.f80.results.toList (encT sh80_1.vs d.1) (encH sh80_1.h d.2) K = A80_1 (f80_1 F) d K := Eq.mp (by kernel_rfl) (E80_1g F (f84_1 F) (f80_1_l3 F)  d K)
theorem S80_1_ok (F : Nat) (o : Summ) (ho : SoundFn Tryd.prog 80 o) : SoundFn Tryd.prog 80 (S80_1 F o) :=
  soundFn_of (fn := Tryd.f80) (c := code80) rfl rfl (by kernel_rfl) (tab_cons (S84_1_ok F _ (noS_sound enter84)) tab_nil) (by kernel_rfl) (by kernel_rfl) ho (by rw [loops80]; exact (loopsOK_cons (by kernel_rfl) (L80_1_3 F) loopsOK_nil)) (by rw [scopes80]; exact scopesOK_nil) (by rw [ranges80]; exact rangesOK_nil) (E80_1 F)
end Go.Proofs.YtlgopekjjkdkiaaDoor.X
end

section
namespace Go.Proofs.YtlgopekjjkdkiaaDoor.X
open Go Go.Proofs.YtlgopekjjkdkiaaDoor.Ev Go.Proofs
set_option linter.unusedVariables false
set_option linter.unusedSectionVars false
/-! crc.Add -/
noncomputable def f73_1_l4 {β : Type} (F : Nat) (v3 : Int) (v5 : List Int) (v6 : List Int) (K0 : Int → Option β) : Nat → Int → Int → Option β
  | 0, _, _ => none
  | k + 1, v2, v4 => cond (decide (v4 < v3)) (cond (decide ((0 : Int) ≤ v4 ∧ v4 < ((v5.length : Nat) : Int))) (cond (decide (0 + v4.toNat < v5.length)) (cond (decide ((0 : Int) ≤ ixor .u8 (IntKind.u8.wrap v2) (v5.getD (0 + v4.toNat) 0) ∧ ixor .u8 (IntKind.u8.wrap v2) (v5.getD (0 + v4.toNat) 0) < 256)) (cond (decide ((ixor .u8 (IntKind.u8.wrap v2) (v5.getD (0 + v4.toNat) 0)).toNat < v6.length)) (f73_1_l4 F v3 v5 v6 K0 k (ixor .u32 (ishr .u32 v2 8) (v6.getD ((ixor .u8 (IntKind.u8.wrap v2) (v5.getD (0 + v4.toNat) 0)).toNat) 0)) (IntKind.i64.wrap (v4 + 1))) none) none) none) none) (K0 v2)
noncomputable def f73_1 {β : Type} (F : Nat) (a1 : Int) (a2 : List Int) (K0 : Int → Option β) : Option β := f80_1 F  (fun x1 => f73_1_l4 F ((a2.length : Nat) : Int) a2 x1 (fun x7 => K0 (ixor .u32 4294967295 x7)) F (ixor .u32 4294967295 a1) 0) 
variable [FZ]
def sh73_1 : Sh := ⟨[.lf (.int .u32), .lf (.full 0)], [some ⟨none, [.seq (.int .u8) 0]⟩]⟩
abbrev Y73_1 := Int → List Int → (Int → Option Res) → Option Res
noncomputable def A73_1 (g : Y73_1) (d : sh73_1.den) (K : KF) : Option Res := g d.1.1 d.2.1.2.1 (fun (y0 : Int) => K [.lf (.int .u32 y0)] [some ⟨d.2.1.1, [.seq (.int .u8) 0 d.2.1.2.1]⟩])
noncomputable def S73_1 (F : Nat) (o : Summ) : Summ := mkS sh73_1 (fun d K => A73_1 (f73_1 F) d K) o
noncomputable def code73 : Code := bodyOf Tryd.f73
noncomputable def b73_0 : Code := cB (cB (cR (cL (cR (cR (cR (code73)))))))
theorem scopes73 : scopesOf code73 = [] := by kernel_rfl
theorem ranges73 : rangesOf code73 = [] := by kernel_rfl
theorem loops73 : loopsOf code73 = [b73_0] := by kernel_rfl
theorem enter73 : ∀ args w, (callFunc 73 args).run Tryd.prog w = .ok (.enter 73 args) w := enter_of (fn := Tryd.f73) (by kernel_rfl) (by kernel_rfl) (by kernel_rfl)
noncomputable def T73_1 (F : Nat) : FuncId → Option Summ := tab [(80, (S80_1 F noS))]
noncomputable def TB73_1 (c80_1 : Y80_1) : FuncId → Option Summ := tab [(80, (mkS sh80_1 (fun d K => A80_1 c80_1 d K) noS))]
def sh73_1_l4 : Sh := ⟨[.lf (.ptr 1 0), .lf (.int .u32), .lf (.full 0), .lf (.int .i64), .lf (.int .i64)], [some ⟨none, [.seq (.int .u8) 0]⟩, some ⟨some false, [.seq (.int .u32) 256]⟩]⟩
abbrev Y73_1_l4 := Int → List Int → List Int → (Int → Option Res) → Nat → Int → Int → Option Res
noncomputable def A73_1_l4 (g : Y73_1_l4) (k : Nat) (d : sh73_1_l4.den) (K : KL) : Option Res := g d.1.2.2.2.1 d.2.1.2.1 d.2.2.1.2.1 (fun (y0 : Int) => K (.exit 0) [.tv (.lf (.int .u32 y0))] [some ⟨d.2.1.1, [.seq (.int .u8) 0 d.2.1.2.1]⟩, some ⟨false, [.seq (.int .u32) 256 d.2.2.1.2.1]⟩]) k d.1.2.1 d.1.2.2.2.2.1
noncomputable def G73_1_4 (F k : Nat) : LoopS := mkG sh73_1_l4 [5, 6, 12, 13, 14] (outT [(.exit 0, [6])]) (fun d K => A73_1_l4 (f73_1_l4 F) k d K) []
noncomputable def LT73_1 (F : Nat) : Nat → Option LoopS := ltab [(4, G73_1_4 F F)]
theorem L73_1_l4g (F k : Nat) (c80_1 : Y80_1)  (l4 : Y73_1_l4) (X4 : LoopS) (d : sh73_1_l4.den) (K : KL) : A73_1_l4 ((fun (v3 : Int) (v5 : List Int) (v6 : List Int) (K0 : (Int → Option Res)) (k : Nat) (v2 : Int) (v4 : Int) => cond (decide (v4 < v3)) (cond (decide ((0 : Int) ≤ v4 ∧ v4 < ((v5.length : Nat) : Int))) (cond (decide (0 + v4.toNat < v5.length)) (cond (decide ((0 : Int) ≤ ixor .u8 (IntKind.u8.wrap v2) (v5.getD (0 + v4.toNat) 0) ∧ ixor .u8 (IntKind.u8.wrap v2) (v5.getD (0 + v4.toNat) 0) < 256)) (cond (decide ((ixor .u8 (IntKind.u8.wrap v2) (v5.getD (0 + v4.toNat) 0)).toNat < v6.length)) (l4 v3 v5 v6 K0 k (ixor .u32 (ishr .u32 v2 8) (v6.getD ((ixor .u8 (IntKind.u8.wrap v2) (v5.getD (0 + v4.toNat) 0)).toNat) 0)) (IntKind.i64.wrap (v4 + 1))) none) none) none) none) (K0 v2))) k d K = roundOf Tryd.prog (TB73_1 c80_1) (xw []) 30 1 (ltab [(4, X4)]) (mkG sh73_1_l4 [5, 6, 12, 13, 14] (outT [(.exit 0, [6])]) (fun d K => A73_1_l4 l4 k d K) []) b73_0 (encT sh73_1_l4.vs d.1) (encH sh73_1_l4.h d.2) K := by kernel_rfl
theorem L73_1_4 (F : Nat) : LoopOK Tryd.prog (T73_1 F) (xw []) 30 1 (LT73_1 F) (G73_1_4 F F) b73_0 :=
  loopOK_of (s := sh73_1_l4) (live := [5, 6, 12, 13, 14]) (out := (outT [(.exit 0, [6])])) (mv := []) (fun k d K => A73_1_l4 (f73_1_l4 F) k d K) F (fun d K => by kernel_rfl)  (fun k d K => Eq.mp (by kernel_rfl) (L73_1_l4g F k (f80_1 F)  (f73_1_l4 F) (G73_1_4 F F) d K))
theorem E73_1g (F : Nat) (c80_1 : Y80_1) (l4 : Y73_1_l4)  (d : sh73_1.den) (K : KF) : evBody Tryd.prog (TB73_1 c80_1) (xw []) 30 1 (ltab [(4, mkG sh73_1_l4 [5, 6, 12, 13, 14] (outT [(.exit 0, [6])]) (fun d K => A73_1_l4 l4 F d K) [])]) [] code73 Tryd.f73.results.toList (encT sh73_1.vs d.1) (encH sh73_1.h d.2) K = A73_1 (fun (a1 : Int) (a2 : List Int) (K0 : (Int → Option Res)) => c80_1  (fun x1 => l4 ((a2.length : Nat) : Int) a2 x1 (fun x7 => K0 (ixor .u32 4294967295 x7)) F (ixor .u32 4294967295 a1) 0) ) d K := by kernel_rfl
theorem E73_1 (F : Nat) (d : sh73_1.den) (K : KF) : evBody Tryd.prog (T73_1 F) (xw []) 30 1 (LT73_1 F) [] code73 Tryd.f73.results.toList (encT sh73_1.vs d.1) (encH sh73_1.h d.2) K = A73_1 (f73_1 F) d K := Eq.mp (by kernel_rfl) (E73_1g F (f80_1 F) (f73_1_l4 F)  d K)
theorem S73_1_ok (F : Nat) (o : Summ) (ho : SoundFn Tryd.prog 73 o) : SoundFn Tryd.prog 73 (S73_1 F o) :=
  soundFn_of (fn := Tryd.f73) (c := code73) rfl rfl (by kernel_rfl) (tab_cons (S80_1_ok F _ (noS_sound enter80)) tab_nil) (by kernel_rfl) (by kernel_rfl) ho (by rw [loops73]; exact (loopsOK_cons (by kernel_rfl) (L73_1_4 F) loopsOK_nil)) (by rw [scopes73]; exact scopesOK_nil) (by rw [ranges73]; exact rangesOK_nil) (E73_1 F)
end Go.Proofs.YtlgopekjjkdkiaaDoor.X
end

section
namespace Go.Proofs.YtlgopekjjkdkiaaDoor.X
open Go Go.Proofs.YtlgopekjjkdkiaaDoor.Ev Go.Proofs
set_option linter.unusedVariables false
set_option linter.unusedSectionVars false
/-! crc.Sum -/
noncomputable def f54_1 {β : Type} (F : Nat) (a1 : List Int) (K0 : Int → Option β) : Option β := f73_1 F 0 a1 (fun x1 => K0 x1) 
variable [FZ]
def sh54_1 : Sh := ⟨[.lf (.full 0)], [some ⟨none, [.seq (.int .u8) 0]⟩]⟩
abbrev Y54_1 := List Int → (Int → Option Res) → Option Res
noncomputable def A54_1 (g : Y54_1) (d : sh54_1.den) (K : KF) : Option Res := g d.2.1.2.1 (fun (y0 : Int) => K [.lf (.int .u32 y0)] [some ⟨d.2.1.1, [.seq (.int .u8) 0 d.2.1.2.1]⟩])
noncomputable def S54_1 (F : Nat) (o : Summ) : Summ := mkS sh54_1 (fun d K => A54_1 (f54_1 F) d K) o
noncomputable def code54 : Code := bodyOf Tryd.f54
theorem scopes54 : scopesOf code54 = [] := by kernel_rfl
theorem ranges54 : rangesOf code54 = [] := by kernel_rfl
theorem loops54 : loopsOf code54 = [] := by kernel_rfl
theorem enter54 : ∀ args w, (callFunc 54 args).run Tryd.prog w = .ok (.enter 54 args) w := enter_of (fn := Tryd.f54) (by kernel_rfl) (by kernel_rfl) (by kernel_rfl)
noncomputable def T54_1 (F : Nat) : FuncId → Option Summ := tab [(73, (S73_1 F noS))]
noncomputable def TB54_1 (c73_1 : Y73_1) : FuncId → Option Summ := tab [(73, (mkS sh73_1 (fun d K => A73_1 c73_1 d K) noS))]
noncomputable def LT54_1 (F : Nat) : Nat → Option LoopS := ltab []
theorem E54_1g (F : Nat) (c73_1 : Y73_1)   (d : sh54_1.den) (K : KF) : evBody Tryd.prog (TB54_1 c73_1) (xw []) 5 1 (ltab []) [] code54 Tryd.f54.results.toList (encT sh54_1.vs d.1) (encH sh54_1.h d.2) K = A54_1 (fun (a1 : List Int) (K0 : (Int → Option Res)) => c73_1 0 a1 (fun x1 => K0 x1) ) d K := by kernel_rfl
theorem E54_1 (F : Nat) (d : sh54_1.den) (K : KF) : evBody Tryd.prog (T54_1 F) (xw []) 5 1 (LT54_1 F) [] code54 Tryd.f54.results.toList (encT sh54_1.vs d.1) (encH sh54_1.h d.2) K = A54_1 (f54_1 F) d K := Eq.mp (by kernel_rfl) (E54_1g F (f73_1 F)   d K)
theorem S54_1_ok (F : Nat) (o : Summ) (ho : SoundFn Tryd.prog 54 o) : SoundFn Tryd.prog 54 (S54_1 F o) :=
  soundFn_of (fn := Tryd.f54) (c := code54) rfl rfl (by kernel_rfl) (tab_cons (S73_1_ok F _ (noS_sound enter73)) tab_nil) (by kernel_rfl) (by kernel_rfl) ho (by rw [loops54]; exact loopsOK_nil) (by rw [scopes54]; exact scopesOK_nil) (by rw [ranges54]; exact rangesOK_nil) (E54_1 F)
end Go.Proofs.YtlgopekjjkdkiaaDoor.X
end

section
namespace Go.Proofs.YtlgopekjjkdkiaaDoor.X
open Go Go.Proofs.YtlgopekjjkdkiaaDoor.Ev Go.Proofs
set_option linter.unusedVariables false
set_option linter.unusedSectionVars false
/-! word.right -/
noncomputable def f74_1 {β : Type} (F : Nat) (a1 : Int) (K0 : Bool → Option β) : Option β := cond (decide (a1 ≥ 1)) (K0 (decide (a1 ≤ 8))) (K0 false)
variable [FZ]
def sh74_1 : Sh := ⟨[.lf (.int .i64)], []⟩
abbrev Y74_1 := Int → (Bool → Option Res) → Option Res
noncomputable def A74_1 (g : Y74_1) (d : sh74_1.den) (K : KF) : Option Res := g d.1.1 (fun (y0 : Bool) => K [.lf (.bool y0)] [])
noncomputable def S74_1 (F : Nat) (o : Summ) : Summ := mkS sh74_1 (fun d K => A74_1 (f74_1 F) d K) o
noncomputable def code74 : Code := bodyOf Tryd.f74
theorem scopes74 : scopesOf code74 = [] := by kernel_rfl
theorem ranges74 : rangesOf code74 = [] := by kernel_rfl
theorem loops74 : loopsOf code74 = [] := by kernel_rfl
theorem enter74 : ∀ args w, (callFunc 74 args).run Tryd.prog w = .ok (.enter 74 args) w := enter_of (fn := Tryd.f74) (by kernel_rfl) (by kernel_rfl) (by kernel_rfl)
noncomputable def T74_1 (F : Nat) : FuncId → Option Summ := tab []
noncomputable def TB74_1  : FuncId → Option Summ := tab []
noncomputable def LT74_1 (F : Nat) : Nat → Option LoopS := ltab []
theorem E74_1g (F : Nat)    (d : sh74_1.den) (K : KF) : evBody Tryd.prog TB74_1 (xw []) 9 0 (ltab []) [] code74 Tryd.f74.results.toList (encT sh74_1.vs d.1) (encH sh74_1.h d.2) K = A74_1 (fun (a1 : Int) (K0 : (Bool → Option Res)) => cond (decide (a1 ≥ 1)) (K0 (decide (a1 ≤ 8))) (K0 false)) d K := by kernel_rfl
theorem E74_1 (F : Nat) (d : sh74_1.den) (K : KF) : evBody Tryd.prog (T74_1 F) (xw []) 9 0 (LT74_1 F) [] code74 Tryd.f74.results.toList (encT sh74_1.vs d.1) (encH sh74_1.h d.2) K = A74_1 (f74_1 F) d K := Eq.mp (by kernel_rfl) (E74_1g F    d K)
theorem S74_1_ok (F : Nat) (o : Summ) (ho : SoundFn Tryd.prog 74 o) : SoundFn Tryd.prog 74 (S74_1 F o) :=
  soundFn_of (fn := Tryd.f74) (c := code74) rfl rfl (by kernel_rfl) tab_nil (by kernel_rfl) (by kernel_rfl) ho (by rw [loops74]; exact loopsOK_nil) (by rw [scopes74]; exact scopesOK_nil) (by rw [ranges74]; exact rangesOK_nil) (E74_1 F)
end Go.Proofs.YtlgopekjjkdkiaaDoor.X
end

section
namespace Go.Proofs.YtlgopekjjkdkiaaDoor.X
open Go Go.Proofs.YtlgopekjjkdkiaaDoor.Ev Go.Proofs
set_option linter.unusedVariables false
set_option linter.unusedSectionVars false
/-! word.Put -/
noncomputable def f55_1_l6 {β : Type} (F : Nat) (v2 : Int) (v4 : List Int) (K0 : List Int → Option β) : Nat → Int → List Int → Option β
  | 0, _, _ => none
  | k + 1, v3, v5 => cond (decide (v3 ≥ 0)) (cond (decide (v3 < 0)) none (cond (decide ((v5.length + 1) * 1 ≤ 70368744177664)) (f55_1_l6 F v2 v4 K0 k (IntKind.i64.wrap (v3 - 8)) (v5 ++ [IntKind.u8.wrap (ishr .u64 v2 v3)])) none)) (K0 v5)
noncomputable def f55_1 {β : Type} (F : Nat) (a1 : Int) (a2 : Int) (a3 : List Int) (K0 : List Int → Option β) : Option β := cond (decide ((0 : Int) ≤ (0 : Int) ∧ (0 : Int) ≤ IntKind.i64.wrap (((a3.length : Nat) : Int) + 8) ∧ IntKind.i64.wrap (((a3.length : Nat) : Int) + 8) ≤ 70368744177664 ∧ IntKind.i64.wrap (((a3.length : Nat) : Int) + 8) * 1 ≤ 70368744177664)) (cond (decide ((0 + a3.length) * 1 ≤ 70368744177664)) (f74_1 F a1 (fun x1 => cond (!x1) (K0 ((((List.replicate ((IntKind.i64.wrap (((a3.length : Nat) : Int) + 8)).toNat) 0).drop 0).take 0) ++ a3)) (f55_1_l6 F a2 a3 (fun x6 => K0 x6) F (IntKind.i64.wrap (8 * (IntKind.i64.wrap (a1 - 1)))) ((((List.replicate ((IntKind.i64.wrap (((a3.length : Nat) : Int) + 8)).toNat) 0).drop 0).take 0) ++ a3))) ) none) none
variable [FZ]
def sh55_1 : Sh := ⟨[.lf (.full 0), .lf (.int .i64), .lf (.int .u64)], [some ⟨none, [.seq (.int .u8) 0]⟩]⟩
abbrev Y55_1 := Int → Int → List Int → (List Int → Option Res) → Option Res
noncomputable def A55_1 (g : Y55_1) (d : sh55_1.den) (K : KF) : Option Res := g d.1.2.1 d.1.2.2.1 d.2.1.2.1 (fun (y1 : List Int) => K [.lf (.full 1)] [some ⟨d.2.1.1, [.seq (.int .u8) 0 d.2.1.2.1]⟩, some ⟨false, [.seq (.int .u8) 0 y1]⟩])
noncomputable def S55_1 (F : Nat) (o : Summ) : Summ := mkS sh55_1 (fun d K => A55_1 (f55_1 F) d K) o
noncomputable def code55 : Code := bodyOf Tryd.f55
noncomputable def b55_0 : Code := cB (cB (cR (cL (cR (cR (cR (cR (code55))))))))
theorem scopes55 : scopesOf code55 = [] := by kernel_rfl
theorem ranges55 : rangesOf code55 = [] := by kernel_rfl
theorem loops55 : loopsOf code55 = [b55_0] := by kernel_rfl
theorem enter55 : ∀ args w, (callFunc 55 args).run Tryd.prog w = .ok (.enter 55 args) w := enter_of (fn := Tryd.f55) (by kernel_rfl) (by kernel_rfl) (by kernel_rfl)
noncomputable def T55_1 (F : Nat) : FuncId → Option Summ := tab [(74, (S74_1 F noS))]
noncomputable def TB55_1 (c74_1 : Y74_1) : FuncId → Option Summ := tab [(74, (mkS sh74_1 (fun d K => A74_1 c74_1 d K) noS))]
def sh55_1_l6 : Sh := ⟨[.lf (.int .u64), .lf (.full 1), .lf (.int .i64)], [some ⟨none, [.seq (.int .u8) 0]⟩, some ⟨some false, [.seq (.int .u8) 0]⟩]⟩
abbrev Y55_1_l6 := Int → List Int → (List Int → Option Res) → Nat → Int → List Int → Option Res
noncomputable def A55_1_l6 (g : Y55_1_l6) (k : Nat) (d : sh55_1_l6.den) (K : KL) : Option Res := g d.1.1 d.2.1.2.1 (fun (y1 : List Int) => K (.exit 0) [.tv (.lf (.full 1))] [some ⟨d.2.1.1, [.seq (.int .u8) 0 d.2.1.2.1]⟩, some ⟨false, [.seq (.int .u8) 0 y1]⟩]) k d.1.2.2.1 d.2.2.1.2.1
noncomputable def G55_1_6 (F k : Nat) : LoopS := mkG sh55_1_l6 [2, 7, 8] (outT [(.exit 0, [7])]) (fun d K => A55_1_l6 (f55_1_l6 F) k d K) []
noncomputable def LT55_1 (F : Nat) : Nat → Option LoopS := ltab [(6, G55_1_6 F F)]
theorem L55_1_l6g (F k : Nat) (c74_1 : Y74_1)  (l6 : Y55_1_l6) (X6 : LoopS) (d : sh55_1_l6.den) (K : KL) : A55_1_l6 ((fun (v2 : Int) (v4 : List Int) (K0 : (List Int → Option Res)) (k : Nat) (v3 : Int) (v5 : List Int) => cond (decide (v3 ≥ 0)) (cond (decide (v3 < 0)) none (cond (decide ((v5.length + 1) * 1 ≤ 70368744177664)) (l6 v2 v4 K0 k (IntKind.i64.wrap (v3 - 8)) (v5 ++ [IntKind.u8.wrap (ishr .u64 v2 v3)])) none)) (K0 v5))) k d K = roundOf Tryd.prog (TB55_1 c74_1) (xw []) 35 1 (ltab [(6, X6)]) (mkG sh55_1_l6 [2, 7, 8] (outT [(.exit 0, [7])]) (fun d K => A55_1_l6 l6 k d K) []) b55_0 (encT sh55_1_l6.vs d.1) (encH sh55_1_l6.h d.2) K := by kernel_rfl
theorem L55_1_6 (F : Nat) : LoopOK Tryd.prog (T55_1 F) (xw []) 35 1 (LT55_1 F) (G55_1_6 F F) b55_0 :=
  loopOK_of (s := sh55_1_l6) (live := [2, 7, 8]) (out := (outT [(.exit 0, [7])])) (mv := []) (fun k d K => A55_1_l6 (f55_1_l6 F) k d K) F (fun d K => by kernel_rfl)  (fun k d K => Eq.mp (by kernel_rfl) (L55_1_l6g F k (f74_1 F)  (f55_1_l6 F) (G55_1_6 F F) d K))
theorem E55_1g (F : Nat) (c74_1 : Y74_1) (l6 : Y55_1_l6)  (d : sh55_1.den) (K : KF) : evBody Tryd.prog (TB55_1 c74_1) (xw []) 35 1 (ltab [(6, mkG sh55_1_l6 [2, 7, 8] (outT [(.exit 0, [7])]) (fun d K => A55_1_l6 l6 F d K) [])]) [] code55 Tryd.f55.results.toList (encT sh55_1.vs d.1) (encH sh55_1.h d.2) K = A55_1 (fun (a1 : Int) (a2 : Int) (a3 : List Int) (K0 : (List Int → Option Res)) => cond (decide ((0 : Int) ≤ (0 : Int) ∧ (0 : Int) ≤ IntKind.i64.wrap (((a3.length : Nat) : Int) + 8) ∧ IntKind.i64.wrap (((a3.length : Nat) : Int) + 8) ≤ 70368744177664 ∧ IntKind.i64.wrap (((a3.length : Nat) : Int) + 8) * 1 ≤ 70368744177664)) (cond (decide ((0 + a3.length) * 1 ≤ 70368744177664)) (c74_1 a1 (fun x1 => cond (!x1) (K0 ((((List.replicate ((IntKind.i64.wrap (((a3.length : Nat) : Int) + 8)).toNat) 0).drop 0).take 0) ++ a3)) (l6 a2 a3 (fun x6 => K0 x6) F (IntKind.i64.wrap (8 * (IntKind.i64.wrap (a1 - 1)))) ((((List.replicate ((IntKind.i64.wrap (((a3.length : Nat) : Int) + 8)).toNat) 0).drop 0).take 0) ++ a3))) ) none) none) d K := by kernel_rfl
theorem E55_1 (F : Nat) (d : sh55_1.den) (K : KF) : evBody Tryd.prog (T55_1 F) (xw []) 35 1 (LT55_1 F) [] code55 Tryd.f55.results.toList (encT sh55_1.vs d.1) (encH sh55_1.h d.2) K = A55_1 (f55_1 F) d K := Eq.mp (by kernel_rfl) (E55_1g F (f74_1 F) (f55_1_l6 F)  d K)
theorem S55_1_ok (F : Nat) (o : Summ) (ho : SoundFn Tryd.prog 55 o) : SoundFn Tryd.prog 55 (S55_1 F o) :=
  soundFn_of (fn := Tryd.f55) (c := code55) rfl rfl (by kernel_rfl) (tab_cons (S74_1_ok F _ (noS_sound enter74)) tab_nil) (by kernel_rfl) (by kernel_rfl) ho (by rw [loops55]; exact (loopsOK_cons (by kernel_rfl) (L55_1_6 F) loopsOK_nil)) (by rw [scopes55]; exact scopesOK_nil) (by rw [ranges55]; exact rangesOK_nil) (E55_1 F)
end Go.Proofs.YtlgopekjjkdkiaaDoor.X
end

section
namespace Go.Proofs.YtlgopekjjkdkiaaDoor.X
open Go Go.Proofs.YtlgopekjjkdkiaaDoor.Ev Go.Proofs
set_option linter.unusedVariables false
set_option linter.unusedSectionVars false
/-! rec.sum -/
noncomputable def f53_1 {β : Type} (F : Nat) (a1 : ByteArray) (K0 : ByteArray → Option β) : Option β := cond (decide ((0 : Int) ≤ (0 : Int) ∧ (0 : Int) ≤ (60 : Int) ∧ (60 : Int) ≤ (a1.size : Int))) (f54_1 F (toInts (a1.extract 0 60)) (fun x1 => f55_1 F 4 (IntKind.u64.wrap x1) [] (fun x2 => K0 (ofInts x2)) ) ) none
variable [FZ]
def sh53_1 : Sh := ⟨[.lf (.str)], []⟩
abbrev Y53_1 := ByteArray → (ByteArray → Option Res) → Option Res
noncomputable def A53_1 (g : Y53_1) (d : sh53_1.den) (K : KF) : Option Res := g d.1.1 (fun (y0 : ByteArray) => K [.lf (.str y0)] [])
noncomputable def S53_1 (F : Nat) (o : Summ) : Summ := mkS sh53_1 (fun d K => A53_1 (f53_1 F) d K) o
noncomputable def code53 : Code := bodyOf Tryd.f53
theorem scopes53 : scopesOf code53 = [] := by kernel_rfl
theorem ranges53 : rangesOf code53 = [] := by kernel_rfl
theorem loops53 : loopsOf code53 = [] := by kernel_rfl
theorem enter53 : ∀ args w, (callFunc 53 args).run Tryd.prog w = .ok (.enter 53 args) w := enter_of (fn := Tryd.f53) (by kernel_rfl) (by kernel_rfl) (by kernel_rfl)
noncomputable def T53_1 (F : Nat) : FuncId → Option Summ := tab [(54, (S54_1 F noS)), (55, (S55_1 F noS))]
noncomputable def TB53_1 (c54_1 : Y54_1) (c55_1 : Y55_1) : FuncId → Option Summ := tab [(54, (mkS sh54_1 (fun d K => A54_1 c54_1 d K) noS)), (55, (mkS sh55_1 (fun d K => A55_1 c55_1 d K) noS))]
noncomputable def LT53_1 (F : Nat) : Nat → Option LoopS := ltab []
theorem E53_1g (F : Nat) (c54_1 : Y54_1) (c55_1 : Y55_1)   (d : sh53_1.den) (K : KF) : evBody Tryd.prog (TB53_1 c54_1 c55_1) (xw []) 10 0 (ltab []) [] code53 Tryd.f53.results.toList (encT sh53_1.vs d.1) (encH sh53_1.h d.2) K = A53_1 (fun (a1 : ByteArray) (K0 : (ByteArray → Option Res)) => cond (decide ((0 : Int) ≤ (0 : Int) ∧ (0 : Int) ≤ (60 : Int) ∧ (60 : Int) ≤ (a1.size : Int))) (c54_1 (toInts (a1.extract 0 60)) (fun x1 => c55_1 4 (IntKind.u64.wrap x1) [] (fun x2 => K0 (ofInts x2)) ) ) none) d K := by kernel_rfl
theorem E53_1 (F : Nat) (d : sh53_1.den) (K : KF) : evBody Tryd.prog (T53_1 F) (xw []) 10 0 (LT53_1 F) [] code53 Tryd.f53.results.toList (encT sh53_1.vs d.1) (encH sh53_1.h d.2) K = A53_1 (f53_1 F) d K := Eq.mp (by kernel_rfl) (E53_1g F (f54_1 F) (f55_1 F)   d K)
theorem S53_1_ok (F : Nat) (o : Summ) (ho : SoundFn Tryd.prog 53 o) : SoundFn Tryd.prog 53 (S53_1 F o) :=
  soundFn_of (fn := Tryd.f53) (c := code53) rfl rfl (by kernel_rfl) (tab_cons (S54_1_ok F _ (noS_sound enter54)) (tab_cons (S55_1_ok F _ (noS_sound enter55)) tab_nil)) (by kernel_rfl) (by kernel_rfl) ho (by rw [loops53]; exact loopsOK_nil) (by rw [scopes53]; exact scopesOK_nil) (by rw [ranges53]; exact rangesOK_nil) (E53_1 F)
end Go.Proofs.YtlgopekjjkdkiaaDoor.X
end
