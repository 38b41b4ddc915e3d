/- Merged: EvS16, EvS17, EvS20, EvS21, EvF183, EvF135, EvF68, EvS18, EvS19, Rep, RepC, EvF136, EvF69, EvF12, EvF21, EvF98, EvF36, EvF84, EvF23, EvF77, EvF85, EvF86, EvF24, EvF24v1385, EvF25, EvF15, EvF99, EvF37, EvF37v6206, EvF39, EvF144, EvF90, EvF164. -/
import Derived.Test.YtlgopekjjkdkiaaGreatDoorMNodesFreshCard2
import Derived.LoopN
import Derived.Scope
import Derived.ScopeJumps
import Derived.Laws.Sem
import Derived.RangeFuncCalls
import Derived.KernelRfl
import Derived.Test.YtlgopekjjkdkiaaGreatDoorProg
import Derived.ChangeArms
import Derived.OpenShut
import Derived.Below
import Derived.Carry
import Derived.ChangeShapes
import Derived.WideShapes
import Derived.Shelf.Strings.Repeat
section
namespace Go.Proofs.YtlgopekjjkdkiaaGreatDoor.Ev
open Go
set_option linter.unusedVariables false
set_option linter.unusedSimpArgs false
set_option linter.unusedSectionVars false
section
variable [FZ]
variable {P : Program}
def exitOf : Xt → Exit
  | .normal => .normal
  | .exit i => .exit i
  | .goto l => .goto l
  | .ret => .ret
def Pin (n0 : Nat) (m m' : GM) : Prop := n0 ≤ m'.length ∧ ∀ i, i < n0 → m'[i]? = m[i]?
theorem Pin.refl {n0 : Nat} {m : GM} (h : n0 ≤ m.length) : Pin n0 m m := ⟨h, fun _ _ => rfl⟩
theorem Pin.trans {n0 : Nat} {a b c : GM} (h : Pin n0 a b) (k : Pin n0 b c) : Pin n0 a c := ⟨k.1, fun i hi => (k.2 i hi).trans (h.2 i hi)⟩
theorem Pin.of_pre {n0 : Nat} {m m' : GM} (h : n0 ≤ m.length) (p : Pre m m') : Pin n0 m m' := by
  have hg : ∀ i, i < n0 → m'[i]? = m[i]? := fun i hi => by
    have hm : m[i]? = some (m[i]'(by omega)) := List.getElem?_eq_getElem _
    rw [hm]; exact p i _ hm
  refine ⟨?_, hg⟩
  cases n0 with
  | zero => omega
  | succ n =>
    have h1 := hg n (by omega)
    rcases Nat.lt_or_ge n m'.length with h2 | h2
    · exact h2
    · rw [List.getElem?_eq_none h2, List.getElem?_eq_getElem (by omega)] at h1; cases h1
def SlotsRel (m : GM) (a : Act) : List Nat → List AV → Prop
  | s :: ss, v :: vs => (isTop v ∨ AVRel m v (a.tmps.getD s undef)) ∧ SlotsRel m a ss vs
  | _, _ => True
theorem eget_topEnv (n i : Nat) : eget (topEnv n) i = .top := by
  induction n generalizing i with
  | zero => rfl
  | succ n ih => cases i with
    | zero => rfl
    | succ i => exact ih i
theorem topEnv_length (n : Nat) : (topEnv n).length = n := by
  induction n with
  | zero => rfl
  | succ n ih => simp [topEnv, ih]
theorem mkEnv_length (n : Nat) : ∀ (ss : List Nat) (vs : List AV), (mkEnv n ss vs).length = n
  | [], vs => by cases vs <;> simp [mkEnv, topEnv_length]
  | s :: ss, [] => by simp [mkEnv, topEnv_length]
  | s :: ss, v :: vs => by simp only [mkEnv, eset_length]; exact mkEnv_length n ss vs
theorem mkEnv_rel {G : Ctx} {m : GM} {a : Act} {n : Nat} (hn : n ≤ a.tmps.size) (hd : a.defers = G.dfs) : ∀ (ss : List Nat) (vs : List AV), SlotsRel m a ss vs → ERel G m (mkEnv n ss vs) a := by
  have base : ERel G m (topEnv n) a := ⟨by rw [topEnv_length]; exact hn, hd, fun i => by rw [eget_topEnv]; exact .inl trivial⟩
  intro ss
  induction ss with
  | nil => intro vs _; cases vs <;> exact base
  | cons s ss ih =>
    intro vs hs
    cases vs with
    | nil => exact base
    | cons v vs =>
      have he := ih vs hs.2
      refine ⟨by rw [mkEnv_length]; exact hn, hd, fun i => ?_⟩
      simp only [mkEnv]
      by_cases hi : s = i
      · subst hi
        by_cases hl : s < (mkEnv n ss vs).length
        · rw [eget_eset_same hl]; exact hs.1
        · rw [eget_out (by rw [eset_length]; exact Nat.le_of_not_lt hl)]; exact .inl trivial
      · rw [eget_eset_ne hi]; exact he.val i
theorem getAll_rel {G : Ctx} {m : GM} {env : Env} {a : Act} (he : ERel G m env a) : ∀ ss, SlotsRel m a ss (getAll env ss)
  | [] => trivial
  | s :: ss => ⟨he.val s, getAll_rel he ss⟩
theorem tvsOf_rel {m : GM} {a : Act} : ∀ {ss : List Nat} {avs : List AV} {vs : List TV}, avs.length = ss.length → SlotsRel m a ss avs → tvsOf avs = some vs → TVs m vs (ss.map fun s => a.tmps.getD s undef)
  | [], [], vs, _, _, h => by cases h; trivial
  | s :: ss, [], vs, hl, _, h => by simp at hl
  | [], v :: avs, vs, hl, _, h => by simp at hl
  | s :: ss, v :: avs, vs, hl, hs, h => by
    unfold tvsOf at h
    split at h
    · cases h; rename_i heq; cases heq
    · cases h
    · rename_i x r hne heq
      cases heq
      split at h
      · rename_i l hl'
        cases h
        refine ⟨?_, tvsOf_rel (by simpa using hl) hs.2 hl'⟩
        rcases hs.1 with ht | ht
        · match x, ht, hne with
          | .lf .top, _, hne => exact (hne rfl).elim
        · exact ht
      · cases h
    · cases h
theorem getAll_length (env : Env) : ∀ ss, (getAll env ss).length = ss.length
  | [] => rfl
  | s :: ss => by simp [getAll, getAll_length env ss]
theorem avsOf_rel {m : GM} {a : Act} : ∀ {ss : List Nat} {vs : List TV}, TVs m vs (ss.map fun s => a.tmps.getD s undef) → SlotsRel m a ss (avsOf vs)
  | [], [], _ => trivial
  | s :: ss, [], h => h.elim
  | [], v :: vs, h => h.elim
  | s :: ss, v :: vs, h => ⟨.inr h.1, avsOf_rel h.2⟩
theorem SlotsRel.mono {m m' : GM} {a : Act} (hp : Pre m m') : ∀ {ss : List Nat} {vs : List AV}, SlotsRel m a ss vs → SlotsRel m' a ss vs
  | [], vs, _ => by cases vs <;> trivial
  | s :: ss, [], _ => trivial
  | s :: ss, v :: vs, h => ⟨h.1.imp id (AVRel.mono hp), SlotsRel.mono hp h.2⟩
section
variable {T : FuncId → Option Summ} {X : Xtra} {nt n0 : Nat} {LT : Nat → Option LoopS}
structure SubR (G G2 : Ctx) : Prop where
  inv : ∀ {m : GM} {h : Heap} {w : World}, Inv G2 m h w → Inv G m h w
  gh : G2.gh = G.gh
  dfs : ∀ d ∈ G2.dfs, d ∈ G.dfs ∨ ∃ D, d = ({ target := .collected D, args := #[] } : Deferred) ∧ G.w0.heap.size ≤ D
  size : G.w0.heap.size ≤ G2.w0.heap.size
theorem SubR.refl (G : Ctx) : SubR G G := ⟨id, rfl, fun d h => .inl h, Nat.le_refl _⟩
theorem SubR.trans {A B C : Ctx} (h : SubR A B) (k : SubR B C) : SubR A C :=
  ⟨fun i => h.inv (k.inv i), k.gh.trans h.gh, fun d hd => by
    rcases k.dfs d hd with h1 | ⟨D, h1, h2⟩
    · exact h.dfs d h1
    · exact .inr ⟨D, h1, Nat.le_trans h.size h2⟩, Nat.le_trans h.size k.size⟩
def Sub (X : Xtra) (G G2 : Ctx) : Prop := G2 = G ∨ ((X.rd || X.y.isSome) = false ∧ SubR G G2)
theorem Sub.refl (X : Xtra) (G : Ctx) : Sub X G G := .inl rfl
theorem Sub.trans {X : Xtra} {A B C : Ctx} (h : Sub X A B) (k : Sub X B C) : Sub X A C := by
  rcases h with rfl | ⟨h1, h2⟩
  · exact k
  · rcases k with rfl | ⟨k1, k2⟩
    · exact .inr ⟨h1, h2⟩
    · exact .inr ⟨h1, h2.trans k2⟩
structure Std (P : Program) (X : Xtra) (n0 : Nat) (m0 : GM) (G : Ctx) : Prop where
  y : YOK P G m0 n0 X
  gn : ∀ x ∈ G.gh, x.1 < n0
  gb : (X.rd || X.y.isSome) = false → G.gh = []
theorem Std.sub {X : Xtra} {n0 : Nat} {m0 : GM} {G G2 : Ctx} (h : Std P X n0 m0 G) (k : Sub X G G2) : Std P X n0 m0 G2 := by
  rcases k with rfl | ⟨k1, k2⟩
  · exact h
  · refine ⟨fun y hy => ?_, by rw [k2.gh]; exact h.gn, by rw [k2.gh]; exact h.gb⟩
    rw [hy] at k1
    simp at k1
def LoopOK (P : Program) (T : FuncId → Option Summ) (X : Xtra) (nt n0 : Nat) (LT : Nat → Option LoopS) (S : LoopS) (b : Code) : Prop :=
  ∃ g : Nat → LoopS, (∀ k, (g k).live = S.live ∧ (g k).out = S.out) ∧
    (∀ vs h K r, S.run vs h K = some r → ∃ n, (g n).run vs h K = some r) ∧
    (∀ vs h K, (g 0).run vs h K = none) ∧
    ∀ k vs h K r, (g (k + 1)).run vs h K = some r → roundOf P T X nt n0 LT (g k) b vs h K = some r
def loopsOf : Code → List Code
  | .seq a b => loopsOf a ++ loopsOf b
  | .cond _ a b => loopsOf a ++ loopsOf b
  | .block _ a => loopsOf a
  | .loop a => a :: loopsOf a
  | .scope a => loopsOf a
  | _ => []
def LoopsOK (P : Program) (T : FuncId → Option Summ) (X : Xtra) (nt n0 : Nat) (LT : Nat → Option LoopS) (l : List Code) : Prop :=
  ∀ b ∈ l, ∀ S, LT (firstRegion b) = some S → LoopOK P T X nt n0 LT S b
variable {r : Res}
def After (X : Xtra) (G : Ctx) (m : GM) (n0 : Nat) (K : Xt → Env → Heap → Option Res) (r : Res) (Q : Exit → Act → World → Prop) : Prop :=
  ∀ G2, Sub X G G2 → ∀ e env' h' m' a' w', K e env' h' = some r → Inv G2 m' h' w' → Pin n0 m m' → ERel G2 m' env' a' → Q (exitOf e) a' w'
def AfterL (X : Xtra) (G : Ctx) (nt n0 : Nat) (m : GM) (out : Xt → List Nat) (K : Xt → List AV → Heap → Option Res) (r : Res) (Q : Exit → Act → World → Prop) : Prop :=
  ∀ G2, Sub X G G2 → ∀ e avs h' m' a' w', K e avs h' = some r → Inv G2 m' h' w' → Pin n0 m m' → nt ≤ a'.tmps.size → a'.defers = G2.dfs → SlotsRel m' a' (out e) avs → Q (exitOf e) a' w'
def LabelOK (P : Program) (T : FuncId → Option Summ) (X : Xtra) (nt n0 : Nat) (LT : Nat → Option LoopS) (S : LoopS) (l : Nat) (b : Code) : Prop :=
  ∃ (g : Nat → LoopS) (rest : Code), findLabel b l = some rest ∧ (∀ k, (g k).live = S.live ∧ (g k).out = S.out) ∧
    (∀ vs h K r, S.run vs h K = some r → ∃ n, (g n).run vs h K = some r) ∧
    (∀ vs h K, (g 0).run vs h K = none) ∧
    (∀ k vs h K r, (g (k + 1)).run vs h K = some r → passOf P T X nt n0 LT (g k) l rest vs h K = some r) ∧
    (∀ {m0 : GM} {G : Ctx} {r : Res} {Q : Exit → Act → World → Prop} {m : GM} {h : Heap} {w : World} {a : Act} {env : Env} {K : Xt → Env → Heap → Option Res}, Std P X n0 m0 G → Pin n0 m0 m → Inv G m h w → ERel G m env a →
      evC P T X nt n0 LT rest env h K = some r → After X G m n0 K r Q → rest.wp P Q a w)
def scopesOf : Code → List Code
  | .seq a b => scopesOf a ++ scopesOf b
  | .cond _ a b => scopesOf a ++ scopesOf b
  | .block _ a => scopesOf a
  | .loop a => scopesOf a
  | .scope a => a :: scopesOf a
  | _ => []
def ScopesOK (P : Program) (T : FuncId → Option Summ) (X : Xtra) (nt n0 : Nat) (LT : Nat → Option LoopS) (l : List Code) : Prop :=
  ∀ b ∈ l, ∀ i S, labelIn b = some i → LT (lkey i) = some S → LabelOK P T X nt n0 LT S i b
def joinsOf : Code → List Code
  | .seq a b => b :: (joinsOf a ++ joinsOf b)
  | .cond _ a b => joinsOf a ++ joinsOf b
  | .block _ a => joinsOf a
  | .loop a => joinsOf a
  | .scope a => joinsOf a
  | _ => []
def JoinOK (P : Program) (T : FuncId → Option Summ) (X : Xtra) (nt n0 : Nat) (LT : Nat → Option LoopS) (S : LoopS) (b : Code) : Prop :=
  ∀ vs h K r, S.run vs h K = some r → joinOf P T X nt n0 LT S b vs h K = some r
def JoinsOK (P : Program) (T : FuncId → Option Summ) (X : Xtra) (nt n0 : Nat) (LT : Nat → Option LoopS) (l : List Code) : Prop :=
  ∀ b ∈ l, ∀ S, X.jn (firstRegion b) = some S → JoinOK P T X nt n0 LT S b
def rangesOf : Code → List Code
  | .seq a b => rangesOf a ++ rangesOf b
  | .cond _ a b => rangesOf a ++ rangesOf b
  | .block _ a => rangesOf a
  | .loop a => rangesOf a
  | .scope a => rangesOf a
  | .rangeFunc g ps x y => [.rangeFunc g ps x y]
  | _ => []
def RangeOK (P : Program) (X : Xtra) (nt n0 : Nat) (S : LoopS) (c : Code) : Prop :=
  ∀ {G : Ctx} {m : GM} {h : Heap} {w : World} {a : Act} {vs : List TV} {K : Xt → List AV → Heap → Option Res} {r : Res} {Q : Exit → Act → World → Prop} {n : Nat}, G.gh = [] → n0 ≤ m.length → Inv G m h w → nt ≤ a.tmps.size → a.defers = G.dfs →
    TVs m vs (S.live.map fun s => a.tmps.getD s undef) → S.run vs h K = some r → AfterL X G nt n0 m S.out K r Q → c.wpIn Fence.wide n P Q a w
def RangesOK (P : Program) (X : Xtra) (nt n0 : Nat) (LT : Nat → Option LoopS) (l : List Code) : Prop :=
  ∀ c ∈ l, ∀ g ps x y, c = .rangeFunc g ps x y → ∀ S, LT (rkey (firstRegion x)) = some S → RangeOK P X nt n0 S c
theorem loopIn_sound {G : Ctx} {S : LoopS} {m : GM} {h : Heap} {w : World} {a : Act} {env : Env} {K : Xt → List AV → Heap → Option Res} (hgn : ∀ x ∈ G.gh, x.1 < n0) (hn0 : n0 ≤ m.length) (hi : Inv G m h w) (he : ERel G m env a)
    (hev : loopIn nt n0 S env h K = some r) :
    ∃ vs' h' m', S.run vs' h' K = some r ∧ Inv G m' h' w ∧ Pin n0 m m' ∧ TVs m' vs' (S.live.map fun s => a.tmps.getD s undef) ∧ nt ≤ a.tmps.size := by
  unfold loopIn at hev
  split at hev
  · rename_i hle
    split at hev
    · rename_i vs hvs
      have hx := tvsOf_rel (getAll_length env S.live) (getAll_rel he S.live) hvs
      rw [normF_eq] at hev
      obtain ⟨vs', h', m', h1, h2, h3, h4, h5⟩ := normVs_sound hi hn0 hgn hx hev
      exact ⟨vs', h', m', h1, h2, ⟨h4, h5⟩, h3, Nat.le_trans (Nat.le_of_ble_eq_true hle) he.len⟩
    · cases hev
  · cases hev
theorem rounds_sound {F : Fence} {k : Nat} {m0 : GM} {b : Code} {Q : Exit → Act → World → Prop} {g : Nat → LoopS} {K : Xt → List AV → Heap → Option Res} {live : List Nat} {out : Xt → List Nat}
    (hg : ∀ k, (g k).live = live ∧ (g k).out = out) (h0 : ∀ vs h K, (g 0).run vs h K = none)
    (hs : ∀ k vs h K r, (g (k + 1)).run vs h K = some r → roundOf P T X nt n0 LT (g k) b vs h K = some r)
    (ih : ∀ {G : Ctx} {Q : Exit → Act → World → Prop} {m : GM} {h : Heap} {w : World} {a : Act} {env : Env} {K : Xt → Env → Heap → Option Res}, Std P X n0 m0 G → Pin n0 m0 m → Inv G m h w → ERel G m env a →
      evC P T X nt n0 LT b env h K = some r → After X G m n0 K r Q → b.wpIn F k P Q a w) :
    ∀ (n : Nat) {G : Ctx} {m : GM} {h : Heap} {w : World} {a : Act} {vs : List TV}, Std P X n0 m0 G → Pin n0 m0 m → Inv G m h w → nt ≤ a.tmps.size → a.defers = G.dfs → TVs m vs (live.map fun s => a.tmps.getD s undef) →
      (g n).run vs h K = some r → AfterL X G nt n0 m out K r Q → Code.roundsIn F k P b Q n a w := by
  intro n
  induction n with
  | zero => intro G m h w a vs _ _ _ _ _ _ hrun; rw [h0] at hrun; cases hrun
  | succ n ihn =>
    intro G m h w a vs hst hp0 hi hnt hd hx hrun hq
    have hr := hs _ _ _ _ _ hrun
    unfold roundOf at hr
    rw [frcAs_eq] at hr
    rw [(hg n).1] at hr
    rw [roundsIn_succ]
    refine ih hst hp0 hi (mkEnv_rel hnt hd live _ (avsOf_rel hx)) hr ?_
    intro G2 hG2 e env' h' m' a' w' hK hi' hp he'
    have leave : ∀ {e : Xt}, loopOut nt (g n) e env' h' K = some r → Q (exitOf e) a' w' := by
      intro e hK
      unfold loopOut at hK
      split at hK
      · rename_i hle
        rw [(hg n).2] at hK
        exact hq G2 hG2 _ _ _ _ _ _ hK hi' hp (Nat.le_trans (Nat.le_of_ble_eq_true hle) he'.len) he'.dfr (getAll_rel he' (out _))
      · cases hK
    cases e with
    | normal =>
      have hst2 := hst.sub hG2
      obtain ⟨vs', h2, m2, h3, h4, h5, h6, h7⟩ := loopIn_sound hst2.gn hp.1 hi' he' hK
      rw [(hg n).1] at h6
      exact ihn hst2 (hp0.trans (hp.trans h5)) h4 h7 he'.dfr h6 h3 fun G3 hG3 e avs h3 m3 a3 w3 q1 q2 q3 => hq G3 (hG2.trans hG3) e avs h3 m3 a3 w3 q1 q2 (hp.trans (h5.trans q3))
    | exit i => exact leave hK
    | goto i => exact leave hK
    | ret => exact leave hK
theorem least {p : Nat → Prop} (h : ∃ n, p n) : ∃ n, p n ∧ ∀ k, p k → n ≤ k := by
  obtain ⟨n, hn⟩ := h
  induction n using Nat.strongRecOn with
  | _ n ih =>
    by_cases hk : ∃ k, k < n ∧ p k
    · obtain ⟨k, h1, h2⟩ := hk
      exact ih k h1 h2
    · exact ⟨n, hn, fun k h => Nat.le_of_not_lt fun hlt => hk ⟨k, hlt, h⟩⟩
open Classical in
theorem passes_sound {b rest : Code} {l : Nat} {Q : Exit → Act → World → Prop} {g : Nat → LoopS} {K : Xt → List AV → Heap → Option Res} {live : List Nat} {out : Xt → List Nat} {m0 m1 : GM} {G0 : Ctx}
    (hf : findLabel b l = some rest) (hg : ∀ k, (g k).live = live ∧ (g k).out = out) (h0 : ∀ vs h K, (g 0).run vs h K = none)
    (hs : ∀ k vs h K r, (g (k + 1)).run vs h K = some r → passOf P T X nt n0 LT (g k) l rest vs h K = some r)
    (ih : ∀ {G : Ctx} {Q : Exit → Act → World → Prop} {m : GM} {h : Heap} {w : World} {a : Act} {env : Env} {K : Xt → Env → Heap → Option Res}, Std P X n0 m0 G → Pin n0 m0 m → Inv G m h w → ERel G m env a →
      evC P T X nt n0 LT rest env h K = some r → After X G m n0 K r Q → rest.wp P Q a w)
    (hst : Std P X n0 m0 G0) (hp0 : Pin n0 m0 m1)
    (hq : ∀ G, Sub X G0 G → ∀ e avs h' m' a' w', K e avs h' = some r → Inv G m' h' w' → Pin n0 m1 m' → nt ≤ a'.tmps.size → a'.defers = G.dfs → SlotsRel m' a' (out e) avs → (∀ i, e ≠ .goto i) → Q (exitOf e) a' w')
    {a : Act} {w : World}
    (first : b.wp P (Exit.jump l (fun a w => ∃ n G m h vs, (g n).run vs h K = some r ∧ Sub X G0 G ∧ Inv G m h w ∧ Pin n0 m1 m ∧ nt ≤ a.tmps.size ∧ a.defers = G.dfs ∧ TVs m vs (live.map fun s => a.tmps.getD s undef)) Q) a w) :
    (Code.scope b).wp P Q a w := by
  let Jn : Nat → Act → World → Prop := fun n a w => ∃ G m h vs, (g n).run vs h K = some r ∧ Sub X G0 G ∧ Inv G m h w ∧ Pin n0 m1 m ∧ nt ≤ a.tmps.size ∧ a.defers = G.dfs ∧ TVs m vs (live.map fun s => a.tmps.getD s undef)
  let J : Act → World → Prop := fun a w => ∃ n, Jn n a w
  let mu : Act → World → Nat := fun a w => if hJ : J a w then Classical.choose (least hJ) else 0
  refine wp_scope_jumps l J mu hf (wp_mono first ?_) ?_
  · intro e a w hh
    cases e with
    | goto i => exact ⟨hh.1, hh.2⟩
    | _ => exact hh
  · intro a w hJ
    have hmin := (Classical.choose_spec (least hJ)).1
    have hmu : mu a w = Classical.choose (least hJ) := dif_pos hJ
    obtain ⟨G, m, h, vs, hrun, hG, hi, hpin, hnt, hd, hx⟩ := hmin
    cases hk : Classical.choose (least hJ) with
    | zero => rw [hk, h0] at hrun; cases hrun
    | succ k =>
      rw [hk] at hrun hmu
      have hr := hs _ _ _ _ _ hrun
      unfold passOf at hr
      rw [frcAs_eq, (hg k).1] at hr
      have hst1 := hst.sub hG
      refine ih hst1 (hp0.trans hpin) hi (mkEnv_rel hnt hd live _ (avsOf_rel hx)) hr ?_
      intro G2 hG2 e env' h' m' a' w' hK hi' hp he'
      have leave : ∀ {e : Xt}, (∀ i, e ≠ .goto i) → loopOut nt (g k) e env' h' K = some r → Q (exitOf e) a' w' := by
        intro e hne hK
        unfold loopOut at hK
        split at hK
        · rename_i hle
          rw [(hg k).2] at hK
          exact hq G2 (hG.trans hG2) _ _ _ _ _ _ hK hi' (hpin.trans hp) (Nat.le_trans (Nat.le_of_ble_eq_true hle) he'.len) he'.dfr (getAll_rel he' (out _)) hne
        · cases hK
      cases e with
      | normal => exact leave (by intro i h; cases h) hK
      | exit i => exact leave (by intro j h; cases h) hK
      | ret => exact leave (by intro i h; cases h) hK
      | goto i =>
        simp only at hK
        split at hK
        · rename_i hil
          subst hil
          obtain ⟨vs', h2, m2, h3, h4, h5, h6, h7⟩ := loopIn_sound (hst1.sub hG2).gn hp.1 hi' he' hK
          rw [(hg k).1] at h6
          have hJk : Jn k a' w' := ⟨G2, m2, h2, vs', h3, hG.trans hG2, h4, hpin.trans (hp.trans h5), h7, he'.dfr, h6⟩
          have hJ' : J a' w' := ⟨k, hJk⟩
          refine ⟨rfl, hJ', ?_⟩
          have e1 : mu a' w' = Classical.choose (least hJ') := dif_pos hJ'
          have e2 : Classical.choose (least hJ') ≤ k := (Classical.choose_spec (least hJ')).2 k hJk
          show mu a' w' < mu a w
          omega
        · cases hK
theorem evC_wpJ {ro : Option Nat} {n : Nat} {m0 : GM} (hr1 : X.rd = false → ro = none) (hr2 : X.y.isSome = true → ro = none) (hm : P.follows .mixedOrders = true) (hT : SoundT P T) : ∀ (c : Code), LoopsOK P T X nt n0 LT (loopsOf c) → ScopesOK P T X nt n0 LT (scopesOf c) → RangesOK P X nt n0 LT (rangesOf c) → JoinsOK P T X nt n0 LT (joinsOf c) →
    ∀ {G : Ctx} {Q : Exit → Act → World → Prop} {m : GM} {h : Heap} {w : World} {a : Act} {env : Env} {K : Xt → Env → Heap → Option Res}, Std P X n0 m0 G → Pin n0 m0 m → Inv G m h w → ERel G m env a →
      evC P T X nt n0 LT c env h K = some r → After X G m n0 K r Q → c.wpIn (FR ro) n P Q a w := by
  intro c
  induction c with
  | skip => intro hl hc hR hJ G Q m h w a env K hst hp0 hi he hev hq; exact wpIn_skip (hq G (Sub.refl X G) _ _ _ _ _ _ hev hi (Pin.refl hp0.1) he)
  | region id ops dr =>
    intro hl hc hR hJ G Q m h w a env K hst hp0 hi he hev hq
    cases dr with
    | false =>
      simp only [evC] at hev
      exact wpIn_region_list (evOps_wpIn hT hst.y hr2 ops.toList hp0.1 hp0.2 hi he hev fun env' h' m' a' w' q1 q2 q3 q4 => hq G (Sub.refl X G) _ _ _ _ _ _ q1 q2 (Pin.of_pre hp0.1 q3) q4)
    | true =>
      simp only [evC, frcAs_eq, frcH_eq] at hev
      split at hev
      · cases hev
      · rename_i hrd
        obtain rfl := hr1 (by simpa using hrd)
        split at hev
        · rename_i l hp
          have hp' : plan P (!!X.wr.contains id) ops = some l := by rw [Bool.not_not]; exact hp
          exact wpIn_wide.2 (region_drawn rfl hm hT hp' hi he hev fun env' h' m' a' w' q1 q2 q3 q4 => hq G (Sub.refl X G) _ _ _ _ _ _ q1 q2 (Pin.of_pre hp0.1 q3) q4)
        · cases hev
  | seq x y ihx ihy =>
    intro hl hc hR hJ G Q m h w a env K hst hp0 hi he hev hq
    simp only [evC] at hev
    refine wpIn_seq (ihx (fun b hb => hl b (by simp [loopsOf, hb])) (fun b hb => hc b (by simp [scopesOf, hb])) (fun b hb => hR b (by simp [rangesOf, hb])) (fun b hb => hJ b (by simp [joinsOf, hb])) hst hp0 hi he hev ?_)
    intro G2 hG2 e env' h' m' a' w' hK hi' hp he'
    cases e with
    | normal =>
      simp only at hK
      split at hK
      · rename_i S hS
        obtain ⟨vs', h2, m2, q1, q2, q3, q4, q5⟩ := loopIn_sound (hst.sub hG2).gn hp.1 hi' he' hK
        have hj := hJ y (by simp [joinsOf]) S hS _ _ _ _ q1
        unfold joinOf at hj
        rw [frcAs_eq] at hj
        refine ihy (fun b hb => hl b (by simp [loopsOf, hb])) (fun b hb => hc b (by simp [scopesOf, hb])) (fun b hb => hR b (by simp [rangesOf, hb])) (fun b hb => hJ b (by simp [joinsOf, hb])) (hst.sub hG2) (hp0.trans (hp.trans q3)) q2 (mkEnv_rel q5 he'.dfr S.live _ (avsOf_rel q4)) hj ?_
        intro G3 hG3 e2 env2 h3 m3 a3 w3 p1 p2 p3 p4
        unfold loopOut at p1
        simp only at p1
        split at p1
        · rename_i hle
          simp only [frcAs_eq, frcH_eq] at p1
          exact hq G3 (hG2.trans hG3) _ _ _ _ _ _ p1 p2 (hp.trans (q3.trans p3)) (mkEnv_rel (Nat.le_trans (Nat.le_of_ble_eq_true hle) p4.len) p4.dfr _ _ (getAll_rel p4 (S.out e2)))
        · cases p1
      · exact ihy (fun b hb => hl b (by simp [loopsOf, hb])) (fun b hb => hc b (by simp [scopesOf, hb])) (fun b hb => hR b (by simp [rangesOf, hb])) (fun b hb => hJ b (by simp [joinsOf, hb])) (hst.sub hG2) (hp0.trans hp) hi' he' hK fun G3 hG3 e2 env2 h2 m2 a2 w2 q1 q2 q3 q4 => hq G3 (hG2.trans hG3) _ _ _ _ _ _ q1 q2 (hp.trans q3) q4
    | exit i => exact hq G2 hG2 (.exit i) _ _ _ _ _ hK hi' hp he'
    | goto i => exact hq G2 hG2 (.goto i) _ _ _ _ _ hK hi' hp he'
    | ret => exact hq G2 hG2 .ret _ _ _ _ _ hK hi' hp he'
  | cond c x y ihx ihy =>
    intro hl hc hR hJ G Q m h w a env K hst hp0 hi he hev hq
    simp only [evC] at hev
    split at hev
    · rename_i t ht
      have hcv : a.eval c = .bool t := opd_rel he ht
      refine wpIn_cond hcv ?_
      cases t with
      | true => exact ihx (fun b hb => hl b (by simp [loopsOf, hb])) (fun b hb => hc b (by simp [scopesOf, hb])) (fun b hb => hR b (by simp [rangesOf, hb])) (fun b hb => hJ b (by simp [joinsOf, hb])) hst hp0 hi he hev hq
      | false => exact ihy (fun b hb => hl b (by simp [loopsOf, hb])) (fun b hb => hc b (by simp [scopesOf, hb])) (fun b hb => hR b (by simp [rangesOf, hb])) (fun b hb => hJ b (by simp [joinsOf, hb])) hst hp0 hi he hev hq
    · cases hev
  | block id b ih =>
    intro hl hc hR hJ G Q m h w a env K hst hp0 hi he hev hq
    simp only [evC] at hev
    refine wpIn_block (ih hl hc hR hJ hst hp0 hi he hev ?_)
    intro G2 hG2 e env' h' m' a' w' hK hi' hp he'
    cases e with
    | normal => exact hq G2 hG2 .normal _ _ _ _ _ hK hi' hp he'
    | exit j =>
      simp only at hK
      simp only [exitOf, Exit.inBlock]
      split at hK
      · rename_i hj; rw [if_pos hj]; exact hq G2 hG2 .normal _ _ _ _ _ hK hi' hp he'
      · rename_i hj; rw [if_neg hj]; exact hq G2 hG2 (.exit j) _ _ _ _ _ hK hi' hp he'
    | goto i => exact hq G2 hG2 (.goto i) _ _ _ _ _ hK hi' hp he'
    | ret => exact hq G2 hG2 .ret _ _ _ _ _ hK hi' hp he'
  | loop b ih =>
    intro hl hc hR hJ G Q m h w a env K hst hp0 hi he hev hq
    simp only [evC] at hev
    split at hev
    · rename_i S hS
      obtain ⟨g, hg, h1, h2, h3⟩ := hl b (by simp [loopsOf]) S hS
      obtain ⟨vs', h', m', q1, q2, q3, q4, q5⟩ := loopIn_sound hst.gn hp0.1 hi he hev
      obtain ⟨k, hrun⟩ := h1 _ _ _ _ q1
      refine wpIn_loop_rounds k (rounds_sound (live := S.live) (out := S.out) hg h2 h3 (ih (fun b' hb => hl b' (by simp [loopsOf, hb])) (fun b' hb => hc b' (by simpa [scopesOf] using hb)) (fun b' hb => hR b' (by simpa [rangesOf] using hb)) (fun b' hb => hJ b' (by simpa [joinsOf] using hb))) k hst (hp0.trans q3) q2 q5 he.dfr q4 hrun ?_)
      intro G2 hG2 e avs h'' m'' a'' w'' p1 p2 p3 p4 p5 p6
      simp only [frcAs_eq, frcH_eq] at p1
      exact hq G2 hG2 _ _ _ _ _ _ p1 p2 (q3.trans p3) (mkEnv_rel p4 p5 _ _ p6)
    · cases hev
  | rangeFunc f ps x y ihx ihy =>
    intro hl hc hR hJ G Q m h w a env K hst hp0 hi he hev hq
    simp only [evC] at hev
    split at hev
    · cases hev
    · rename_i hno
      have hno' : (X.rd || X.y.isSome) = false := by simpa using hno
      obtain rfl := hr1 (by simp at hno'; exact hno'.1)
      split at hev
      · rename_i S hS
        obtain ⟨vs', h', m', q1, q2, q3, q4, q5⟩ := loopIn_sound hst.gn hp0.1 hi he hev
        refine hR _ (by simp [rangesOf]) f ps x y rfl S hS (hst.gb hno') q3.1 q2 q5 he.dfr q4 q1 ?_
        intro G2 hG2 e avs h'' m'' a'' w'' p1 p2 p3 p4 p5 p6
        simp only [frcAs_eq, frcH_eq] at p1
        exact hq G2 hG2 _ _ _ _ _ _ p1 p2 (q3.trans p3) (mkEnv_rel p4 p5 _ _ p6)
      · cases hev
  | exit id => intro hl hc hR hJ G Q m h w a env K hst hp0 hi he hev hq; exact wpIn_exit (hq G (Sub.refl X G) (.exit id) _ _ _ _ _ hev hi (Pin.refl hp0.1) he)
  | scope b ih =>
    intro hl hc hR hJ G Q m h w a env K hst hp0 hi he hev hq
    simp only [evC] at hev
    split at hev
    · cases hev
    rename_i hrd
    obtain rfl := hr1 (by simpa using hrd)
    refine wpIn_wide.2 ?_
    have ihb : ∀ {Q : Exit → Act → World → Prop} {K : Xt → Env → Heap → Option Res}, evC P T X nt n0 LT b env h K = some r → After X G m n0 K r Q → b.wp P Q a w :=
      fun hev hq => wpIn_wide.1 (ih (fun b' hb => hl b' (by simpa [loopsOf] using hb)) (fun b' hb => hc b' (by simp [scopesOf, hb])) (fun b' hb => hR b' (by simpa [rangesOf] using hb)) (fun b' hb => hJ b' (by simpa [joinsOf] using hb)) hst hp0 hi he hev hq)
    by_cases hex : ∃ l S, labelIn b = some l ∧ LT (lkey l) = some S
    · obtain ⟨l, S, hlab, hS⟩ := hex
      obtain ⟨g, rest, hf, hg, h1, h2, h3, h4⟩ := hc b (by simp [scopesOf]) l S hlab hS
      refine passes_sound (G0 := G) (r := r) (m0 := m0) (m1 := m) (live := S.live) (out := S.out) (K := fun e vs' h' => frcAs (mkEnv nt (S.out e) vs') fun env => frcH h' fun h' => K e env h') hf hg h2 h3 h4 hst hp0 ?_ ?_
      · intro G2 hG2 e avs h'' m'' a'' w'' p1 p2 p3 p4 p5 p6 p7
        simp only [frcAs_eq, frcH_eq] at p1
        exact hq G2 hG2 _ _ _ _ _ _ p1 p2 p3 (mkEnv_rel p4 p5 _ _ p6)
      · refine ihb hev ?_
        intro G2 hG2 e env' h' m' a' w' hK hi' hp he'
        cases e with
        | normal => exact hq G2 hG2 .normal _ _ _ _ _ hK hi' hp he'
        | exit i => exact hq G2 hG2 (.exit i) _ _ _ _ _ hK hi' hp he'
        | ret => exact hq G2 hG2 .ret _ _ _ _ _ hK hi' hp he'
        | goto i =>
          simp only at hK
          split at hK
          · cases hK
          · rename_i hli
            have hil : l = i := Option.some.inj (hlab.symm.trans (Classical.not_not.1 hli))
            subst hil
            rw [hS] at hK
            obtain ⟨vs', h2', m2, q1, q2, q3, q4, q5⟩ := loopIn_sound (hst.sub hG2).gn hp.1 hi' he' hK
            obtain ⟨k, hn'⟩ := h1 _ _ _ _ q1
            exact ⟨rfl, k, G2, m2, h2', vs', hn', hG2, q2, hp.trans q3, q5, he'.dfr, q4⟩
    · refine wp_scope_straight (ihb hev ?_)
      intro G2 hG2 e env' h' m' a' w' hK hi' hp he'
      cases e with
      | normal => exact hq G2 hG2 .normal _ _ _ _ _ hK hi' hp he'
      | exit i => exact hq G2 hG2 (.exit i) _ _ _ _ _ hK hi' hp he'
      | ret => exact hq G2 hG2 .ret _ _ _ _ _ hK hi' hp he'
      | goto i =>
        simp only at hK
        split at hK
        · cases hK
        · rename_i hli
          split at hK
          · rename_i S' hS'
            exact (hex ⟨i, S', Classical.not_not.1 hli, hS'⟩).elim
          · cases hK
  | label l => intro hl hc hR hJ G Q m h w a env K hst hp0 hi he hev hq; exact wpIn_label (hq G (Sub.refl X G) .normal _ _ _ _ _ hev hi (Pin.refl hp0.1) he)
  | goto l => intro hl hc hR hJ G Q m h w a env K hst hp0 hi he hev hq; exact wpIn_goto (hq G (Sub.refl X G) (.goto l) _ _ _ _ _ hev hi (Pin.refl hp0.1) he)
  | ret => intro hl hc hR hJ G Q m h w a env K hst hp0 hi he hev hq; exact wpIn_ret (hq G (Sub.refl X G) .ret _ _ _ _ _ hev hi (Pin.refl hp0.1) he)
  | refuse s => intro hl hc hR hJ G Q m h w a env K hst hp0 hi he hev hq; simp only [evC] at hev; cases hev
theorem joinsOK_none {l : List Code} (h : ∀ n, X.jn n = none) : JoinsOK P T X nt n0 LT l := fun b _ S hS => by rw [h] at hS; cases hS
theorem evC_wp {ro : Option Nat} {n : Nat} {m0 : GM} (hr1 : X.rd = false → ro = none) (hr2 : X.y.isSome = true → ro = none) (hm : P.follows .mixedOrders = true) (hT : SoundT P T) (c : Code) (hl : LoopsOK P T X nt n0 LT (loopsOf c)) (hc : ScopesOK P T X nt n0 LT (scopesOf c)) (hR : RangesOK P X nt n0 LT (rangesOf c))
    {G : Ctx} {Q : Exit → Act → World → Prop} {m : GM} {h : Heap} {w : World} {a : Act} {env : Env} {K : Xt → Env → Heap → Option Res} (h1 : Std P X n0 m0 G) (h2 : Pin n0 m0 m) (h3 : Inv G m h w) (h4 : ERel G m env a)
      (h5 : evC P T X nt n0 LT c env h K = some r) (h6 : After X G m n0 K r Q) (hjn : ∀ n, X.jn n = none := by intro n; rfl) : c.wpIn (FR ro) n P Q a w :=
  evC_wpJ hr1 hr2 hm hT c hl hc hR (joinsOK_none hjn) h1 h2 h3 h4 h5 h6
def resGet (a : Act) : ResultVar → Sem Value
  | .tmp t => pure (a.tmps.getD t undef)
  | .cell x t => do loadVar t (← asAddr (a.tmps.getD x undef))
theorem resVals_list {G G' : Ctx} {m : GM} {h : Heap} {w : World} {a : Act} {env : Env} (hi : Inv G m h w) (he : ERel G' m env a) : ∀ (l : List ResultVar) (vs : List TV), resVals P env h l = some vs →
    ∃ xs, TVs m vs xs ∧ (l.mapM (resGet a)).run P w = .ok xs w
  | [], vs, hv => by cases hv; exact ⟨[], trivial, by simp [List.mapM_nil]⟩
  | .tmp t :: l, vs, hv => by
    simp only [resVals] at hv
    split at hv
    · cases hv
    · rename_i v l' hne hx hl
      cases hv
      obtain ⟨xs, h1, h2⟩ := resVals_list hi he l _ hl
      refine ⟨a.tmps.getD t undef :: xs, ⟨?_, h1⟩, ?_⟩
      · have := he.val t
        rw [hx] at this
        rcases this with ht | ht
        · match v, ht, hne with
          | .lf .top, _, hne => exact (hne rfl).elim
        · exact ht
      · rw [List.mapM_cons]
        simp only [resGet, Sem.run_bind, Sem.run_pure, Result.andThen_ok, h2]
    · cases hv
  | .cell x t :: l, vs, hv => by
    simp only [resVals] at hv
    split at hv
    · rename_i id off hx
      split at hv
      · rename_i ob hob
        split at hv
        · rename_i es hes
          split at hv
          · rename_i v q hld hl
            cases hv
            obtain ⟨xs, h1, h2⟩ := resVals_list hi he l _ hl
            obtain ⟨g, b, hg, hb, hv'⟩ : ∃ g b, m[id]? = some g ∧ g.addr = some b ∧ a.tmps.getD x undef = .pointer (some (at_ b off)) := by
              have := he.val x
              rw [hx] at this
              exact this.resolve_left (fun h => h)
            obtain ⟨cs, hoc, hrd⟩ := hi.read hob hg hb
            obtain ⟨h3, h4⟩ := dropW_cells hes hoc
            obtain ⟨val, hval, hrun, _⟩ := ldE_run hld h4
            have := hrun b off w (fun j u hu => hrd w (Ext.refl w) (off + j) u (by rw [List.getElem?_drop] at hu; exact hu))
            refine ⟨val :: xs, ⟨hval, h1⟩, ?_⟩
            rw [List.mapM_cons]
            simp [resGet, Sem.run_bind, Result.andThen_ok, h2, hv', asAddr, this]
          · cases hv
        · cases hv
      · cases hv
    · cases hv
theorem results_of {fn : Func} {m : GM} {h : Heap} {w : World} {a : Act} {env : Env} {vs : List TV} {G G' : Ctx} (hi : Inv G m h w) (he : ERel G' m env a) (hv : resVals P env h fn.results.toList = some vs) :
    ∃ xs, TVs m vs xs ∧ (results fn a.tmps).run P w = .ok (if h : xs.toArray.size = 1 then xs.toArray[0] else .tuple xs.toArray) w := by
  obtain ⟨xs, h1, h2⟩ := resVals_list hi he _ _ hv
  refine ⟨xs, h1, ?_⟩
  have : results fn a.tmps = (do
      let ys ← fn.results.mapM (resGet a)
      pure (if h : ys.size = 1 then ys[0] else .tuple ys)) := by
    unfold results
    congr 2
  rw [this, Array.mapM_eq_mapM_toList]
  simp only [Sem.run_bind, map_eq_pure_bind, Sem.run_pure, Result.andThen_ok, h2]
theorem TVs.length_eq {m : GM} : ∀ {vs : List TV} {xs : List Value}, TVs m vs xs → vs.length = xs.length
  | [], [], _ => rfl
  | v :: vs, x :: xs, h => by simp [TVs.length_eq h.2]
  | [], _ :: _, h => h.elim
  | _ :: _, [], h => h.elim
theorem resRel_of {m : GM} {vs : List TV} {xs : List Value} (h : TVs m vs xs) : ResRel m vs (if h : xs.toArray.size = 1 then xs.toArray[0] else .tuple xs.toArray) := by
  match vs, xs, h with
  | [], [], h => exact ⟨#[], rfl, trivial⟩
  | [x], [y], h => exact h.1
  | x :: y :: r, a :: b :: s, h => exact ⟨_, by simp, h⟩
  | [x], _ :: _ :: _, h => exact h.2.elim
  | _ :: _ :: _, [y], h => exact h.2.elim
theorem eget_argEnv : ∀ (n : Nat) (vs : List TV) (i : Nat), eget (argEnv n vs) i = .top ∨ ∃ v, vs[i]? = some v ∧ eget (argEnv n vs) i = .tv v
  | 0, _, _ => .inl rfl
  | n + 1, [], 0 => .inl rfl
  | n + 1, [], i + 1 => by
    rcases eget_argEnv n [] i with h | ⟨v, h, _⟩
    · exact .inl h
    · simp at h
  | n + 1, v :: r, 0 => .inr ⟨v, rfl, rfl⟩
  | n + 1, v :: r, i + 1 => by
    rcases eget_argEnv n r i with h | ⟨v', h1, h2⟩
    · exact .inl h
    · exact .inr ⟨v', by simpa using h1, h2⟩
theorem argEnv_length : ∀ (n : Nat) (vs : List TV), (argEnv n vs).length = n
  | 0, _ => rfl
  | n + 1, [] => by simp [argEnv, argEnv_length n []]
  | n + 1, v :: r => by simp [argEnv, argEnv_length n r]
theorem TVs.get {m : GM} : ∀ {vs : List TV} {xs : List Value}, TVs m vs xs → ∀ {i : Nat} {v : TV}, vs[i]? = some v → ∃ x, xs[i]? = some x ∧ TVRel m v x
  | v :: vs, x :: xs, h, 0, _, hv => by simp only [List.getElem?_cons_zero, Option.some.injEq] at hv; subst hv; exact ⟨x, rfl, h.1⟩
  | v :: vs, x :: xs, h, i + 1, _, hv => by simpa using TVs.get h.2 (by simpa using hv)
  | [], [], _, _, _, hv => by simp at hv
  | [], _ :: _, h, _, _, _ => h.elim
  | _ :: _, [], h, _, _, _ => h.elim
theorem argEnv_rel {m : GM} {n : Nat} {vs : List TV} {xs : List Value} (h : TVs m vs xs) {G : Ctx} (hG : G.dfs = []) : ERel G m (argEnv n vs) { tmps := xs.toArray ++ Array.replicate (n - xs.toArray.size) undef, defers := [] } := by
  refine ⟨by rw [argEnv_length]; simp; omega, hG.symm, fun i => ?_⟩
  rcases eget_argEnv n vs i with h1 | ⟨v, h1, h2⟩
  · rw [h1]; exact .inl trivial
  · rw [h2]
    obtain ⟨x, hx, hr⟩ := h.get h1
    refine .inr ?_
    have hlt := (List.getElem?_eq_some_iff.1 hx).1
    simp only [Array.getD_eq_getD_getElem?]
    rw [Array.getElem?_append_left (by simpa using hlt)]
    simp only [List.getElem?_toArray, hx, Option.getD_some]
    exact hr
theorem Inv.turn {G : Ctx} {m : GM} {h : Heap} {w : World} (hi : Inv G m h w) {l : Nat} {o o' : Obj} (hl : w.heap[l]? = some o) (hc : o.isCells = false) (hs : G.w0.heap.size ≤ l)
    (hd : ∀ x ∈ G.gh, x.2.1 = l → hget h x.1 = none) : Inv G m h (w.putObj l o') := by
  have same : ∀ b, b ≠ l → (w.putObj l o').heap[b]? = w.heap[b]? := fun b hb => World.putObj_heap_other hb
  refine ⟨hi.len, fun id ob g h1 h2 => ?_, hi.own, hi.dist, hi.str.trans ⟨rfl, rfl, rfl⟩, ?_, fun b hb hO => ?_, hi.fz, fun x hx => ⟨(hi.gh x hx).1, fun ob ho => ?_⟩⟩
  · obtain ⟨q1, cs, q2, q3⟩ := hi.obs id ob g h1 h2
    refine ⟨q1, cs, q2, ?_⟩
    rcases q3 with q3 | ⟨b, blk, t, fr, p1, p2, p3⟩
    · exact .inl q3
    · refine .inr ⟨b, blk, t, fr, p1, ?_, p3⟩
      rw [same b.1 (fun e => ?_)]
      · exact p2
      · rw [e, hl] at p2
        rw [Option.some.inj p2] at hc
        cases hc
  · have := hi.size
    simp only [World.putObj, Array.size_setIfInBounds]
    exact this
  · rw [same b (by omega)]
    exact hi.frame b hb hO
  · obtain ⟨q1, q2⟩ := (hi.gh x hx).2 ob ho
    refine ⟨(same _ fun e => ?_).trans q1, q2⟩
    rw [hd x hx e] at ho
    cases ho
theorem leaves_marks {G : Ctx} {m : GM} {h : Heap} {fn : Func} {tmps : Array Value} {R : Ending → World → Prop} {n : Nat} (hgh : G.gh = [])
    (fin : ∀ w, Inv G m h w → ∃ v, (results fn tmps).run P w = .ok v w ∧ R (.returned v) w) :
    ∀ (ds : List Deferred) (w : World), Inv G m h w → ds.Pairwise (· ≠ ·) → (∀ d ∈ ds, ∃ D, d = { target := .collected D, args := #[] } ∧ w.heap[D]? = some (.deferred (some [])) ∧ G.w0.heap.size ≤ D) →
      LeavesInM Fence.wide n P fn tmps R ds .returning w
  | [], w, hi, _, _ => fin w hi
  | d :: ds, w, hi, hnd, hds => by
    obtain ⟨D, rfl, hD, hs⟩ := hds d (by simp)
    refine ⟨by simp, .inl ⟨D, _, rfl, run_takeDeferred hD, ?_⟩⟩
    refine leaves_marks hgh fin ds _ (hi.turn hD rfl hs (by rw [hgh]; intro x hx; cases hx)) (List.pairwise_cons.1 hnd).2 fun d' hd' => ?_
    obtain ⟨D', rfl, hD', hs'⟩ := hds d' (by simp [hd'])
    refine ⟨D', rfl, ?_, hs'⟩
    rw [World.putObj_heap_other (fun e => ?_)]
    · exact hD'
    · exact (List.pairwise_cons.1 hnd).1 _ hd' (by rw [e])
theorem evBody_sound (hX : X.rd = false) (hXy : X.y = none) (hm : P.follows .mixedOrders = true) (hT : SoundT P T) {f : FuncId} {fn : Func} {c : Code} (hf : P.funcs[f]? = some fn) (hb : fn.body = some c) (hl : LoopsOK P T X fn.ntmps n0 LT (loopsOf c)) (hsc : ScopesOK P T X fn.ntmps n0 LT (scopesOf c)) (hrg : RangesOK P X fn.ntmps n0 LT (rangesOf c)) (hJ : JoinsOK P T X fn.ntmps n0 LT (joinsOf c))
    {mv : List Nat} {kn : Bool} {vs : List TV} {h : Heap} (hn0 : h.length = n0) {K : List TV → Heap → Option Res} {r : Res} (hev : evBody P T X fn.ntmps n0 LT mv kn c fn.results.toList vs h K = some r) {G : Ctx} {m : GM} {w : World} {xs : List Value}
    (hgd : G.dfs = []) (hgh : G.gh = []) (hi : Inv G m h w) (hx : TVs m vs xs) :
    Calls P f xs.toArray w fun e w' => ∃ rs h', K rs h' = some r ∧ ∃ v t, e = .returned v ∧ ResRel (m ++ t) rs v ∧ Inv G (m ++ t) h' w' := by
  refine (callsIn_wide (n := 0)).1 (callsIn_of_wp_marks hf hb trivial ?_)
  have hlen : m.length = n0 := hi.len.trans hn0
  unfold evBody at hev
  rw [frcAs_eq] at hev
  have hst : Std P X n0 m G := ⟨fun y hy => (by rw [hXy] at hy; cases hy), fun x hx => (by rw [hgh] at hx; cases hx), fun _ => hgh⟩
  refine evC_wpJ (ro := none) (n := 0) (fun _ => rfl) (fun _ => rfl) hm hT c hl hsc hrg hJ hst (Pin.refl (Nat.le_of_eq hlen.symm)) hi (argEnv_rel hx hgd) hev ?_
  intro G2 hG2 e env' h' m' a' w' hK hi' hp he'
  have hsub : SubR G G2 := by
    rcases hG2 with rfl | ⟨_, h0⟩
    · exact SubR.refl _
    · exact h0
  have fin : ∀ {q : Option (List TV)}, resVals P env' h' fn.results.toList = q → (match q with | some vs => normF kn n0 mv vs h' K | none => none) = some r →
      LeavesInM Fence.wide 0 P fn a'.tmps (fun e w' => ∃ rs h', K rs h' = some r ∧ ∃ v' t, e = .returned v' ∧ ResRel (m ++ t) rs v' ∧ Inv G (m ++ t) h' w') a'.defers .returning w' := by
    intro q hq hk
    cases q with
    | none => cases hk
    | some vs1 =>
      rw [he'.dfr]
      refine leaves_marks hgh (fun w2 hi2 => ?_) G2.dfs w' (hsub.inv hi') G2.nd fun d hd => ?_
      · obtain ⟨xs1, h1, h2⟩ := results_of (fn := fn) hi2 he' hq
        refine ⟨_, h2, ?_⟩
        simp only [normF_eq] at hk
        obtain ⟨rs, h3, m3, q1, q2, q3, q4, q5⟩ := normVs_sound hi2 hp.1 (by rw [hgh]; intro x hx; cases hx) h1 hk
        have hpre : m3 = m ++ m3.drop n0 := by
          apply List.ext_getElem?
          intro i
          by_cases hlt : i < n0
          · rw [List.getElem?_append_left (by omega), q5 i hlt, hp.2 i hlt]
          · rw [List.getElem?_append_right (by omega), List.getElem?_drop, hlen]
            congr 1; omega
        refine ⟨rs, h3, q1, _, m3.drop n0, rfl, ?_, ?_⟩
        · rw [← hpre]; exact resRel_of q3
        · rw [← hpre]; exact q2
      · obtain ⟨D, rfl, hD, hO⟩ := G2.hd d hd
        refine ⟨D, rfl, ?_, ?_⟩
        · rw [hi'.frame D (Array.getElem?_eq_some_iff.1 hD).1 hO]; exact hD
        · rcases hsub.dfs _ hd with h0 | ⟨D', h0, h1⟩
          · rw [hgd] at h0; cases h0
          · injection h0 with h0 _
            injection h0 with h0
            rw [h0]; exact h1
  cases e with
  | normal => exact fin rfl hK
  | ret => exact fin rfl hK
  | exit i => cases hK
  | goto i => cases hK
end
end
section
variable [FZ]
inductive SL where
  | top
  | int (k : IntKind)
  | bool
  | str
  | nilp
  | nils (k : Option EK)
  | ptr (id off : Nat)
  | pix (id off o2 : Nat)
  | full (id : Nat)
  | slice (id off : Nat)
  | sliceC (id off : Nat)
  | seq (k : EK) (n : Nat)
  | fn (f : Nat)
  | sl (q : SK)
  | clo (f : Nat) (ids : List Nat)
  | yld (id : Nat)
  | nilf
@[reducible] def SL.den : SL → Type
  | .int _ => Int
  | .bool => Bool
  | .str => ByteArray
  | .pix _ _ _ => Nat
  | .slice _ _ => Nat × Nat
  | .sliceC _ _ => Nat × Nat × Nat
  | .seq k _ => List k.den
  | .sl q => Sl q
  | _ => Unit
def SL.enc : (s : SL) → s.den → LV
  | .top, _ => .top
  | .int k, n => .int k n
  | .bool, b => .bool b
  | .str, s => .str s
  | .nilp, _ => .nilp
  | .nils k, _ => .nils k
  | .ptr id off, _ => .ptr id off
  | .pix id off o2, i => .pix id off i o2
  | .full id, _ => .full id
  | .slice id off, d => .slice id off d.1 d.2 none
  | .sliceC id off, d => .slice id off d.1 d.2.1 (some d.2.2)
  | .seq k n, l => .seq k n l
  | .fn f, _ => .fn f
  | .sl q, x => .sl q x
  | .clo f ids, _ => .clo f ids
  | .yld id, _ => .yld id
  | .nilf, _ => .nilf
def SL.dec : (s : SL) → LV → Option s.den
  | .top, x => match x with | .top => some () | _ => none
  | .int k, x => match x with | .int k' n => if k' = k then some n else none | _ => none
  | .bool, x => match x with | .bool b => some b | _ => none
  | .str, x => match x with | .str s => some s | _ => none
  | .nilp, x => match x with | .nilp => some () | _ => none
  | .nils k, x => match x with | .nils k' => if k' = k then some () else none | _ => none
  | .ptr id off, x => match x with | .ptr id' off' => if id' = id ∧ off' = off then some () else none | _ => none
  | .pix id off o2, x => match x with | .pix id' off' i o2' => if id' = id ∧ off' = off ∧ o2' = o2 then some i else none | _ => none
  | .full id, x => match x with | .full id' => if id' = id then some () else none | _ => none
  | .slice id off, x => match x with | .slice id' off' lo len none => if id' = id ∧ off' = off then some (lo, len) else none | _ => none
  | .sliceC id off, x => match x with | .slice id' off' lo len (some c) => if id' = id ∧ off' = off then some (lo, len, c) else none | _ => none
  | .seq k n, x => match x with | .seq k' n' l => if h : k' = k then (if n' = n then some (castL h l) else none) else none | _ => none
  | .fn f, x => match x with | .fn f' => if f' = f then some () else none | _ => none
  | .sl q, x => match x with | .sl q' y => if h : q' = q then some (castS h y) else none | _ => none
  | .clo f ids, x => match x with | .clo f' ids' => if f' = f ∧ ids' = ids then some () else none | _ => none
  | .yld id, x => match x with | .yld id' => if id' = id then some () else none | _ => none
  | .nilf, x => match x with | .nilf => some () | _ => none
theorem SL.dec_enc : ∀ (s : SL) (x : LV) (d : s.den), s.dec x = some d → x = s.enc d := by
  intro s x d h
  cases s <;> simp only [SL.dec] at h
  case top => split at h <;> first | rfl | cases h
  case int k =>
    split at h
    · rename_i k' n
      split at h
      · rename_i hk; subst hk; cases h; rfl
      · cases h
    · cases h
  case bool => split at h <;> first | (cases h; rfl) | cases h
  case str => split at h <;> first | (cases h; rfl) | cases h
  case nilp => split at h <;> first | rfl | cases h
  case nils k =>
    split at h
    · split at h
      · rename_i hk; subst hk; rfl
      · cases h
    · cases h
  case ptr id off =>
    split at h
    · split at h
      · rename_i hk; obtain ⟨rfl, rfl⟩ := hk; rfl
      · cases h
    · cases h
  case pix id off o2 =>
    split at h
    · split at h
      · rename_i hk; obtain ⟨rfl, rfl, rfl⟩ := hk; cases h; rfl
      · cases h
    · cases h
  case full id =>
    split at h
    · split at h
      · rename_i hk; subst hk; rfl
      · cases h
    · cases h
  case fn f =>
    split at h
    · split at h
      · rename_i hk; subst hk; rfl
      · cases h
    · cases h
  case sl q =>
    split at h
    · split at h
      · rename_i hk; subst hk; cases h; rfl
      · cases h
    · cases h
  case clo f ids =>
    split at h
    · split at h
      · rename_i hk; obtain ⟨rfl, rfl⟩ := hk; rfl
      · cases h
    · cases h
  case yld id =>
    split at h
    · split at h
      · rename_i hk; subst hk; rfl
      · cases h
    · cases h
  case nilf => split at h <;> first | rfl | cases h
  case slice id off =>
    split at h
    · split at h
      · rename_i hk; obtain ⟨rfl, rfl⟩ := hk; cases h; rfl
      · cases h
    · cases h
  case sliceC id off =>
    split at h
    · split at h
      · rename_i hk; obtain ⟨rfl, rfl⟩ := hk; cases h; rfl
      · cases h
    · cases h
  case seq k n =>
    split at h
    · split at h
      · rename_i hk
        subst hk
        split at h
        · rename_i hn; subst hn; cases h; rfl
        · cases h
      · cases h
    · cases h
@[reducible] def denL : List SL → Type
  | [] => Unit
  | s :: r => s.den × denL r
def encL : (l : List SL) → denL l → List LV
  | [], _ => []
  | s :: r, d => s.enc d.1 :: encL r d.2
def decL : (l : List SL) → List LV → Option (denL l)
  | [], x => match x with | [] => some () | _ => none
  | s :: r, x => match x with
    | y :: q => match s.dec y, decL r q with
      | some a, some b => some (a, b)
      | _, _ => none
    | [] => none
theorem decL_enc : ∀ (l : List SL) (x : List LV) (d : denL l), decL l x = some d → x = encL l d
  | [], x, d, h => by
    simp only [decL] at h
    split at h
    · rfl
    · cases h
  | s :: r, x, d, h => by
    simp only [decL] at h
    split at h
    · split at h
      · rename_i ha hb
        cases h
        rw [SL.dec_enc _ _ _ ha, decL_enc _ _ _ hb]; rfl
      · cases h
    · cases h
inductive ST where
  | lf (s : SL)
  | agg (l : List SL)
@[reducible] def ST.den : ST → Type
  | .lf s => s.den
  | .agg l => denL l
def ST.enc : (s : ST) → s.den → TV
  | .lf s, d => .lf (s.enc d)
  | .agg l, d => .agg (encL l d)
def ST.dec : (s : ST) → TV → Option s.den
  | .lf s, x => match x with | .lf y => s.dec y | _ => none
  | .agg l, x => match x with | .agg y => decL l y | _ => none
theorem ST.dec_enc : ∀ (s : ST) (x : TV) (d : s.den), s.dec x = some d → x = s.enc d
  | .lf s, x, d, h => by
    simp only [ST.dec] at h
    split at h
    · rw [SL.dec_enc _ _ _ h]; rfl
    · cases h
  | .agg l, x, d, h => by
    simp only [ST.dec] at h
    split at h
    · rw [decL_enc _ _ _ h]; rfl
    · cases h
@[reducible] def denT : List ST → Type
  | [] => Unit
  | s :: r => s.den × denT r
def encT : (l : List ST) → denT l → List TV
  | [], _ => []
  | s :: r, d => s.enc d.1 :: encT r d.2
def decT : (l : List ST) → List TV → Option (denT l)
  | [], x => match x with | [] => some () | _ => none
  | s :: r, x => match x with
    | y :: q => match s.dec y, decT r q with
      | some a, some b => some (a, b)
      | _, _ => none
    | [] => none
theorem decT_enc : ∀ (l : List ST) (x : List TV) (d : denT l), decT l x = some d → x = encT l d
  | [], x, d, h => by
    simp only [decT] at h
    split at h
    · rfl
    · cases h
  | s :: r, x, d, h => by
    simp only [decT] at h
    split at h
    · split at h
      · rename_i ha hb
        cases h
        rw [ST.dec_enc _ _ _ ha, decT_enc _ _ _ hb]; rfl
      · cases h
    · cases h
structure SO where
  ro : Option Bool
  es : List SL
@[reducible] def denRo : Option Bool → Type
  | none => Bool
  | some _ => Unit
def encRo : (o : Option Bool) → denRo o → Bool
  | none, b => b
  | some b, _ => b
def decRo : (o : Option Bool) → Bool → Option (denRo o)
  | none, b => some b
  | some true, b => match b with | true => some () | false => none
  | some false, b => match b with | true => none | false => some ()
theorem decRo_enc : ∀ (o : Option Bool) (x : Bool) (d : denRo o), decRo o x = some d → x = encRo o d
  | none, x, d, h => by cases h; rfl
  | some true, x, d, h => by cases x <;> first | rfl | (simp [decRo] at h)
  | some false, x, d, h => by cases x <;> first | rfl | (simp [decRo] at h)
@[reducible] def denH : List (Option SO) → Type
  | [] => Unit
  | none :: r => Unit × denH r
  | some o :: r => (denRo o.ro × denL o.es) × denH r
def encH : (l : List (Option SO)) → denH l → Heap
  | [], _ => []
  | none :: r, d => none :: encH r d.2
  | some o :: r, d => some ⟨encRo o.ro d.1.1, encL o.es d.1.2⟩ :: encH r d.2
def decH : (l : List (Option SO)) → Heap → Option (denH l)
  | [], x => match x with | [] => some () | _ => none
  | none :: r, x => match x with
    | none :: q => match decH r q with
      | some b => some ((), b)
      | none => none
    | _ => none
  | some o :: r, x => match x with
    | some y :: q => match decRo o.ro y.ro, decL o.es y.es, decH r q with
      | some a, some b, some c => some ((a, b), c)
      | _, _, _ => none
    | _ => none
theorem decH_enc : ∀ (l : List (Option SO)) (x : Heap) (d : denH l), decH l x = some d → x = encH l d
  | [], x, d, h => by
    simp only [decH] at h
    split at h
    · rfl
    · cases h
  | none :: r, x, d, h => by
    simp only [decH] at h
    split at h
    · split at h
      · rename_i hb
        cases h
        rw [decH_enc _ _ _ hb]; rfl
      · cases h
    · cases h
  | some o :: r, x, d, h => by
    simp only [decH] at h
    split at h
    · split at h
      · rename_i ha hb hc
        cases h
        rw [decH_enc _ _ _ hc]
        have h1 := decRo_enc _ _ _ ha
        have h2 := decL_enc _ _ _ hb
        simp only [encH, ← h1, ← h2]
      · cases h
    · cases h
structure Sh where
  vs : List ST
  h : List (Option SO)
@[reducible] def Sh.den (s : Sh) : Type := denT s.vs × denH s.h
theorem encH_length : ∀ (l : List (Option SO)) (d : denH l), (encH l d).length = l.length
  | [], _ => rfl
  | none :: r, d => by simp [encH, encH_length r]
  | some o :: r, d => by simp [encH, encH_length r]
abbrev KF := List TV → Heap → Option Res
abbrev KL := Xt → List AV → Heap → Option Res
def mkS (s : Sh) (l : s.den → KF → Option Res) (other : Summ) : Summ := fun vs h K =>
  match decT s.vs vs, decH s.h h with
  | some a, some b => l (a, b) K
  | _, _ => other vs h K
def noS : Summ := fun _ _ _ => none
def mkG (s : Sh) (live : List Nat) (out : Xt → List Nat) (l : s.den → KL → Option Res) (mv : List Nat := []) : LoopS where
  mv := mv
  live := live
  out := out
  run := fun vs h K => match decT s.vs vs, decH s.h h with
    | some a, some b => l (a, b) K
    | _, _ => none
def orG (s : Sh) (l : s.den → KL → Option Res) (S : LoopS) : LoopS where
  mv := S.mv
  live := S.live
  out := S.out
  run := fun vs h K => match decT s.vs vs, decH s.h h with
    | some a, some b => l (a, b) K
    | _, _ => S.run vs h K
section
variable {P : Program} {T : FuncId → Option Summ} {X : Xtra} {nt n0 : Nat} {LT : Nat → Option LoopS}
theorem mkG_run {s : Sh} {live : List Nat} {out : Xt → List Nat} {l : s.den → KL → Option Res} {mv : List Nat} {vs : List TV} {h : Heap} {K : KL} {r : Res} (he : (mkG s live out l mv).run vs h K = some r) :
    ∃ d : s.den, vs = encT s.vs d.1 ∧ h = encH s.h d.2 ∧ l d K = some r := by
  change (match decT s.vs vs, decH s.h h with | some a, some b => l (a, b) K | _, _ => none) = some r at he
  split at he
  · rename_i a b ha hb
    exact ⟨(a, b), decT_enc _ _ _ ha, decH_enc _ _ _ hb, he⟩
  · cases he
theorem loopOK_of {mv : List Nat} {s : Sh} {live : List Nat} {out : Xt → List Nat} {b : Code} (l : Nat → s.den → KL → Option Res) (F : Nat) (h0 : ∀ d K, l 0 d K = none)
    (hs : ∀ k d K, l (k + 1) d K = roundOf P T X nt n0 LT (mkG s live out (l k) mv) b (encT s.vs d.1) (encH s.h d.2) K) :
    LoopOK P T X nt n0 LT (mkG s live out (l F) mv) b := by
  refine ⟨fun k => mkG s live out (l k) mv, fun k => ⟨rfl, rfl⟩, fun vs h K r he => ⟨F, he⟩, fun vs h K => ?_, fun k vs h K r he => ?_⟩
  · cases hq : (mkG s live out (l 0) mv).run vs h K with
    | none => rfl
    | some r =>
      obtain ⟨d, _, _, h3⟩ := mkG_run hq
      rw [h0] at h3; cases h3
  · obtain ⟨d, rfl, rfl, h3⟩ := mkG_run he
    rw [hs] at h3
    exact h3
theorem orG_run {s : Sh} {l : s.den → KL → Option Res} {S : LoopS} {vs : List TV} {h : Heap} {K : KL} {r : Res} (he : (orG s l S).run vs h K = some r) :
    (∃ d : s.den, vs = encT s.vs d.1 ∧ h = encH s.h d.2 ∧ l d K = some r) ∨ S.run vs h K = some r := by
  change (match decT s.vs vs, decH s.h h with | some a, some b => l (a, b) K | _, _ => S.run vs h K) = some r at he
  split at he
  · rename_i a b ha hb
    exact .inl ⟨(a, b), decT_enc _ _ _ ha, decH_enc _ _ _ hb, he⟩
  · exact .inr he
structure VerOK (P : Program) (T : FuncId → Option Summ) (X : Xtra) (nt n0 : Nat) (LT : Nat → Option LoopS) (b : Code) (all g : Nat → LoopS) : Prop where
  zero : ∀ vs h K, (g 0).run vs h K = none
  succ : ∀ k vs h K r, (g (k + 1)).run vs h K = some r → roundOf P T X nt n0 LT (all k) b vs h K = some r
theorem verOK_last {mv : List Nat} {s : Sh} {live : List Nat} {out : Xt → List Nat} {b : Code} {all : Nat → LoopS} (l : Nat → s.den → KL → Option Res) (h0 : ∀ d K, l 0 d K = none)
    (hs : ∀ k d K, l (k + 1) d K = roundOf P T X nt n0 LT (all k) b (encT s.vs d.1) (encH s.h d.2) K) : VerOK P T X nt n0 LT b all (fun k => mkG s live out (l k) mv) := by
  refine ⟨fun vs h K => ?_, fun k vs h K r he => ?_⟩
  · cases hq : (mkG s live out (l 0) mv).run vs h K with
    | none => rfl
    | some r =>
      obtain ⟨d, _, _, h3⟩ := mkG_run hq
      rw [h0] at h3; cases h3
  · obtain ⟨d, rfl, rfl, h3⟩ := mkG_run he
    rw [hs] at h3
    exact h3
theorem verOK_cons {s : Sh} {b : Code} {all g : Nat → LoopS} (l : Nat → s.den → KL → Option Res) (h0 : ∀ d K, l 0 d K = none)
    (hs : ∀ k d K, l (k + 1) d K = roundOf P T X nt n0 LT (all k) b (encT s.vs d.1) (encH s.h d.2) K) (hg : VerOK P T X nt n0 LT b all g) : VerOK P T X nt n0 LT b all (fun k => orG s (l k) (g k)) := by
  refine ⟨fun vs h K => ?_, fun k vs h K r he => ?_⟩
  · cases hq : (orG s (l 0) (g 0)).run vs h K with
    | none => rfl
    | some r =>
      rcases orG_run hq with ⟨d, _, _, h3⟩ | h3
      · rw [h0] at h3; cases h3
      · rw [hg.zero] at h3; cases h3
  · rcases orG_run he with ⟨d, rfl, rfl, h3⟩ | h3
    · rw [hs] at h3
      exact h3
    · exact hg.succ k vs h K r h3
theorem loopOK_vers {b : Code} (all : Nat → LoopS) (F : Nat) (hl : ∀ k, (all k).live = (all F).live ∧ (all k).out = (all F).out) (h : VerOK P T X nt n0 LT b all all) : LoopOK P T X nt n0 LT (all F) b :=
  ⟨all, hl, fun vs h K r he => ⟨F, he⟩, h.zero, h.succ⟩
theorem loopsOK_nil : LoopsOK P T X nt n0 LT [] := fun b hb => by cases hb
theorem loopsOK_cons {b : Code} {l : List Code} {S : LoopS} (hS : LT (firstRegion b) = some S) (h : LoopOK P T X nt n0 LT S b) (hl : LoopsOK P T X nt n0 LT l) : LoopsOK P T X nt n0 LT (b :: l) := by
  intro c hc S' hS'
  rcases List.mem_cons.1 hc with rfl | hc
  · rw [hS] at hS'; cases hS'; exact h
  · exact hl c hc S' hS'
theorem loopsOK_skip {b : Code} {l : List Code} (hS : LT (firstRegion b) = none) (hl : LoopsOK P T X nt n0 LT l) : LoopsOK P T X nt n0 LT (b :: l) := by
  intro c hc S' hS'
  rcases List.mem_cons.1 hc with rfl | hc
  · rw [hS] at hS'; cases hS'
  · exact hl c hc S' hS'
noncomputable def endK (P : Program) (n0 : Nat) (rv : List ResultVar) (K : List TV → Heap → Option Res) : Xt → Env → Heap → Option Res := fun e env h' => match e with
  | .normal => (match resVals P env h' rv with
    | some vs => normF false n0 [] vs h' K
    | none => none)
  | .ret => (match resVals P env h' rv with
    | some vs => normF false n0 [] vs h' K
    | none => none)
  | _ => none
theorem rangesOK_nil : RangesOK P X nt n0 LT [] := fun b hb => by cases hb
theorem rangesOK_cons {g : Operand} {ps : Array Tmp} {x y : Code} {l : List Code} {S : LoopS} (hS : LT (rkey (firstRegion x)) = some S) (h : RangeOK P X nt n0 S (.rangeFunc g ps x y)) (hl : RangesOK P X nt n0 LT l) : RangesOK P X nt n0 LT (.rangeFunc g ps x y :: l) := by
  intro c hc g' ps' x' y' he S' hS'
  rcases List.mem_cons.1 hc with rfl | hc
  · cases he
    rw [hS] at hS'; cases hS'; exact h
  · exact hl c hc g' ps' x' y' he S' hS'
theorem rangesOK_skip {g : Operand} {ps : Array Tmp} {x y : Code} {l : List Code} (hS : LT (rkey (firstRegion x)) = none) (hl : RangesOK P X nt n0 LT l) : RangesOK P X nt n0 LT (.rangeFunc g ps x y :: l) := by
  intro c hc g' ps' x' y' he S' hS'
  rcases List.mem_cons.1 hc with rfl | hc
  · cases he
    rw [hS] at hS'; cases hS'
  · exact hl c hc g' ps' x' y' he S' hS'
theorem scopesOK_nil : ScopesOK P T X nt n0 LT [] := fun b hb => by cases hb
theorem noS_sound {f : FuncId} (he : ∀ args w, (callFunc f args).run P w = .ok (.enter f args) w) : SoundFn P f noS := ⟨he, fun vs h K r hev => by cases hev⟩
theorem enter_of {f : FuncId} {fn : Func} (hf : P.funcs[f]? = some fn) (hname : (fn.name == "runtime.NumGoroutine") = false) (hb : fn.body.isSome = true) (args : Array Value) (w : World) :
    (callFunc f args).run P w = .ok (.enter f args) w := by
  obtain ⟨c, hc⟩ := Option.isSome_iff_exists.1 hb
  have h1 : fn.name ≠ "runtime.NumGoroutine" := by simpa using hname
  simp [callFunc, hf, h1, hc]
theorem soundFn_ofJ (hX : X.rd = false) (hXy : X.y = none) (hm : P.follows .mixedOrders = true) (hT : SoundT P T) {f : FuncId} {fn : Func} {c : Code} (hf : P.funcs[f]? = some fn) (hb : fn.body = some c) {mv : List Nat} {kn : Bool} {s : Sh} {l : s.den → KF → Option Res} {other : Summ}
    (ho : SoundFn P f other) (hl : LoopsOK P T X fn.ntmps s.h.length LT (loopsOf c)) (hsc : ScopesOK P T X fn.ntmps s.h.length LT (scopesOf c)) (hrg : RangesOK P X fn.ntmps s.h.length LT (rangesOf c)) (hJ : JoinsOK P T X fn.ntmps s.h.length LT (joinsOf c))
    (hev : ∀ d K, evBody P T X fn.ntmps s.h.length LT mv kn c fn.results.toList (encT s.vs d.1) (encH s.h d.2) K = l d K) : SoundFn P f (mkS s l other) := by
  refine ⟨ho.enter, fun vs h K r he => ?_⟩
  unfold mkS at he
  split at he
  · rename_i a b ha hb'
    have h1 := decT_enc _ _ _ ha
    have h2 := decH_enc _ _ _ hb'
    subst h1
    subst h2
    rw [← hev] at he
    intro G m w cvs hw hgd hgh hi hx
    exact evBody_sound hX hXy hm hT hf hb hl hsc hrg hJ (encH_length _ _) he hgd hgh hi hx
  · exact ho.ok vs h K r he
theorem soundFn_of (hX : X.rd = false) (hXy : X.y = none) (hm : P.follows .mixedOrders = true) (hT : SoundT P T) {f : FuncId} {fn : Func} {c : Code} (hf : P.funcs[f]? = some fn) (hb : fn.body = some c) {mv : List Nat} {kn : Bool} {s : Sh} {l : s.den → KF → Option Res} {other : Summ}
    (ho : SoundFn P f other) (hl : LoopsOK P T X fn.ntmps s.h.length LT (loopsOf c)) (hsc : ScopesOK P T X fn.ntmps s.h.length LT (scopesOf c)) (hrg : RangesOK P X fn.ntmps s.h.length LT (rangesOf c))
    (hev : ∀ d K, evBody P T X fn.ntmps s.h.length LT mv kn c fn.results.toList (encT s.vs d.1) (encH s.h d.2) K = l d K) (hjn : ∀ n, X.jn n = none := by intro n; rfl) : SoundFn P f (mkS s l other) :=
  soundFn_ofJ hX hXy hm hT hf hb ho hl hsc hrg (joinsOK_none hjn) hev
abbrev xw (l : List Nat) : Xtra := ⟨l, false, none, noJn⟩
def tab : List (Nat × Summ) → FuncId → Option Summ
  | [], _ => none
  | (g, S) :: r, f => if f = g then some S else tab r f
theorem tab_nil : SoundT P (tab []) := fun f S h => by cases h
theorem tab_cons {g : Nat} {S : Summ} {r : List (Nat × Summ)} (h : SoundFn P g S) (hr : SoundT P (tab r)) : SoundT P (tab ((g, S) :: r)) := fun f S' h' => by
  simp only [tab] at h'
  split at h'
  · rename_i hf; subst hf; cases h'; exact h
  · exact hr f S' h'
def outT : List (Xt × List Nat) → Xt → List Nat
  | [], _ => []
  | (e, l) :: r, x => if x = e then l else outT r x
def ltab : List (Nat × LoopS) → Nat → Option LoopS
  | [], _ => none
  | (g, S) :: r, f => if f = g then some S else ltab r f
def cL : Code → Code
  | .seq a _ => a
  | c => c
def cR : Code → Code
  | .seq _ b => b
  | c => c
def cT : Code → Code
  | .cond _ a _ => a
  | c => c
def cB : Code → Code
  | .block _ a => a
  | .loop a => a
  | .scope a => a
  | c => c
def bodyOf (f : Func) : Code := match f.body with | some c => c | none => .skip
def iand (k : IntKind) (x y : Int) : Int := k.wrap (BitVec.ofInt k.bits x &&& BitVec.ofInt k.bits y).toNat
def ior (k : IntKind) (x y : Int) : Int := k.wrap (BitVec.ofInt k.bits x ||| BitVec.ofInt k.bits y).toNat
def ixor (k : IntKind) (x y : Int) : Int := k.wrap (BitVec.ofInt k.bits x ^^^ BitVec.ofInt k.bits y).toNat
def ishl (k : IntKind) (x y : Int) : Int := k.wrap (x * 2 ^ (min y.toNat k.bits))
def ishr (k : IntKind) (x y : Int) : Int := x.fdiv (2 ^ (min y.toNat k.bits))
def isTrueK : KF := fun rs _ => match rs with
  | [.lf (.bool b)] => cond b (some ([], [])) none
  | _ => none
theorem row_true {f : FuncId} {S : Summ} (hs : SoundFn P f S) {vs : List TV} {h : Heap} (he : S vs h isTrueK = some ([], [])) {m : GM} {w : World} {cvs : List Value} (hi : Inv (Ctx.of w fun _ => False) m h w) (hx : TVs m vs cvs) :
    Calls P f cvs.toArray w fun e w' => e = .returned (.bool true) ∧ Ext w w' := by
  refine (hs.ok vs h _ _ he (Ctx.of w fun _ => False) m w cvs rfl rfl rfl hi hx).mono ?_
  rintro e w' ⟨rs, h', hK, v, t, rfl, hr, hi'⟩
  refine ⟨?_, hi'.str, hi'.size, fun b hb => hi'.frame b hb (fun h => h)⟩
  unfold isTrueK at hK
  split at hK
  · rename_i b
    cases b with
    | false => cases hK
    | true =>
      have : v = .bool true := hr
      rw [this]
  · cases hK
end
end
section
variable [FZ]
variable {P : Program}
section
variable {G : Ctx} {m : GM} {h : Heap} {w w' : World}
def Ctx.withGh (G : Ctx) (gl : List (Nat × Nat × Obj)) : Ctx := ⟨G.w0, G.O, G.R, [], fun d h => (by cases h), .nil, gl⟩
theorem Inv.toGh (hi : Inv G m h w) {gl : List (Nat × Nat × Obj)} (hg : ∀ x ∈ gl, x.1 < h.length ∧ ∀ ob, hget h x.1 = some ob → w.heap[x.2.1]? = some x.2.2 ∧ x.2.2.isCells = false) : Inv (G.withGh gl) m h w :=
  ⟨hi.len, hi.obs, hi.own, hi.dist, hi.str, hi.size, hi.frame, hi.fz, hg⟩
theorem Inv.ofGh {gl : List (Nat × Nat × Obj)} (hi : Inv (G.withGh gl) m h w) (h0 : G.gh = []) : Inv G m h w :=
  ⟨hi.len, hi.obs, hi.own, hi.dist, hi.str, hi.size, hi.frame, hi.fz, fun x hx => (by rw [h0] at hx; cases hx)⟩
theorem Inv.addNone (hi : Inv G m h w) (g : Gh) : Inv G (m ++ [g]) (h ++ [none]) w := by
  have old : ∀ {j : Nat} {ob : Ob}, hget (h ++ [none]) j = some ob → j < h.length ∧ hget h j = some ob := by
    intro j ob hj
    rcases hget_app hj with h1 | ⟨_, h1⟩
    · exact h1
    · cases h1
  refine ⟨by simp [hi.len], fun j ob gj hj hgj => ?_, fun j ob gj c hj hgj hc => ?_, fun i j oi oj gi gj b c hne h1 h2 h3 h4 h5 h6 h7 h8 => ?_, hi.str, hi.size, hi.frame, hi.fz, fun x hx => ⟨by have := (hi.gh x hx).1; simp; omega, fun ob ho => (hi.gh x hx).2 ob (old ho).2⟩⟩
  · obtain ⟨hl, hj⟩ := old hj
    obtain ⟨hs, cs, hoc, hp⟩ := hi.obs j ob gj hj (gm_app_old (by rw [hi.len]; exact hl) hgj)
    exact ⟨hs, cs, hoc.mono (pre_append m _), hp⟩
  · obtain ⟨hl, hj⟩ := old hj
    exact hi.own j ob gj c hj (gm_app_old (by rw [hi.len]; exact hl) hgj) hc
  · obtain ⟨hl1, h1⟩ := old h1
    obtain ⟨hl2, h2⟩ := old h2
    exact hi.dist i j oi oj gi gj b c hne h1 h2 h3 h4 (gm_app_old (by rw [hi.len]; exact hl1) h5) (gm_app_old (by rw [hi.len]; exact hl2) h6) h7 h8
theorem Inv.revive (hi : Inv G m h w) {id : Nat} {g : Gh} (hg : m[id]? = some g) (ha : g.addr = none) (hf : ∀ x ∈ G.gh, x.1 = id → w.heap[x.2.1]? = some x.2.2 ∧ x.2.2.isCells = false) :
    Inv G m (hset h id (some ⟨false, []⟩)) w := by
  refine ⟨by rw [hset_length]; exact hi.len, fun j ob gj hj hgj => ?_, fun j ob gj c hj hgj hc => ?_, fun i j oi oj gi gj b c hne h1 h2 h3 h4 h5 h6 h7 h8 => ?_, hi.str, hi.size, hi.frame, hi.fz, fun x hx => ⟨by rw [hset_length]; exact (hi.gh x hx).1, fun ob ho => ?_⟩⟩
  · rcases hget_hset hj with ⟨rfl, h0⟩ | ⟨_, hj⟩
    · cases h0
      rw [hg] at hgj; cases hgj
      exact ⟨fun off k n l r hd => by cases off <;> simp [dropW] at hd, [], rfl, .inl ⟨rfl, ha⟩⟩
    · exact hi.obs j ob gj hj hgj
  · rcases hget_hset hj with ⟨rfl, h0⟩ | ⟨_, hj⟩
    · rw [hg] at hgj; cases hgj
      rw [ha] at hc; cases hc
    · exact hi.own j ob gj c hj hgj hc
  · rcases hget_hset h1 with ⟨rfl, h0⟩ | ⟨_, h1⟩
    · rw [hg] at h5; cases h5
      rw [ha] at h7; cases h7
    · rcases hget_hset h2 with ⟨rfl, h0⟩ | ⟨_, h2⟩
      · rw [hg] at h6; cases h6
        rw [ha] at h8; cases h8
      · exact hi.dist i j oi oj gi gj b c hne h1 h2 h3 h4 h5 h6 h7 h8
  · rcases hget_hset ho with ⟨he, _⟩ | ⟨_, ho⟩
    · exact hf x hx he
    · exact (hi.gh x hx).2 ob ho
theorem Inv.flip (hi : Inv G m h w) {l id1 id2 : Nat} {o o2 : Obj} {g : Gh} (hl : w.heap[l]? = some o) (hc : o.isCells = false) (hc2 : o2.isCells = false) (hs : G.w0.heap.size ≤ l)
    (hd : ∀ x ∈ G.gh, x.2.1 = l → x.1 ≠ id1 → hget h x.1 = none) (hg : m[id2]? = some g) (ha : g.addr = none) (hf : ∀ x ∈ G.gh, x.1 = id2 → x.2.1 = l ∧ x.2.2 = o2) :
    Inv G m (hset (hset h id1 none) id2 (some ⟨false, []⟩)) (w.putObj l o2) := by
  have h1 := hi.drop id1
  have h2 := h1.turn (o' := o2) hl hc hs fun x hx he => by
    by_cases h3 : x.1 = id1
    · rw [h3]
      by_cases h4 : id1 < h.length
      · exact hget_hset_same h4
      · cases hq : hget (hset h id1 none) id1 with
        | none => rfl
        | some ob => have := hget_lt hq; rw [hset_length] at this; exact absurd this h4
    · rw [hget_hset_ne (fun e => h3 e.symm)]; exact hd x hx he h3
  refine h2.revive hg ha fun x hx he => ?_
  obtain ⟨q1, q2⟩ := hf x hx he
  rw [q1, q2]
  exact ⟨World.putObj_heap_same (Array.getElem?_eq_some_iff.1 hl).1, hc2⟩
theorem isGhost_iff {x : Option Ob} : isGhost x = true ↔ x = some ⟨false, []⟩ := by
  unfold isGhost
  split
  · simp
  · rename_i hne
    constructor
    · intro h; cases h
    · intro h; exact absurd h hne
theorem isNone_iff {x : Option Ob} : isNone x = true ↔ x = none := by
  cases x <;> simp [isNone]
theorem setAll_rel (hG : G.dfs = []) : ∀ (ps : List Tmp) (vs : List TV) (xs : List Value) (env : Env) (t : Array Value), ERel G m env ⟨t, []⟩ → TVs m vs xs →
    ERel G m (setAll env ps vs) ⟨(ps.zip xs).foldl (fun t (p : Tmp × Value) => t.setIfInBounds p.1 p.2) t, []⟩
  | [], vs, xs, env, t, he, _ => by cases vs <;> exact he
  | p :: ps, [], [], env, t, he, _ => he
  | p :: ps, [], _ :: _, env, t, he, hx => hx.elim
  | p :: ps, v :: vs, [], env, t, he, hx => hx.elim
  | p :: ps, v :: vs, x :: xs, env, t, he, hx => by
    have h1 := he.put (d := some p) (x := .tv v) (v := x) (.inr hx.1)
    exact setAll_rel hG ps vs xs _ _ h1 hx.2
theorem SlotsRel.tmps {m : GM} {a a' : Act} (ha : a'.tmps = a.tmps) : ∀ {ss : List Nat} {vs : List AV}, SlotsRel m a ss vs → SlotsRel m a' ss vs
  | [], vs, _ => by cases vs <;> trivial
  | s :: ss, [], _ => trivial
  | s :: ss, v :: vs, h => ⟨by rw [ha]; exact h.1, SlotsRel.tmps ha h.2⟩
theorem Pre.of_pin {m m' : GM} (hp : Pin m.length m m') : Pre m m' := fun i g hg => by
  rw [hp.2 i (List.getElem?_eq_some_iff.1 hg).1]; exact hg
end
def jumpCode : Xt → Code
  | .exit i => .exit i
  | .goto l => .goto l
  | _ => .ret
def recOf (fn : FuncId) (t : Array Value) (ps : Array Tmp) (x y : Code) (D : Nat) (st : LoopState) (pe : Option Code) : Loop :=
  { state := st, pending := pe, fn := fn, tmps := t, params := ps, assign := x, body := y, defers := D }
def ghOfLoop (n1 l D : Nat) (rec : LoopState → Option Code → Loop) (jump : Xt) : List (Nat × Nat × Obj) :=
  [(n1, l, .loop (rec .ready none)), (n1 + 1, l, .loop (rec .busy none)), (n1 + 2, l, .loop (rec .done (some (jumpCode jump)))), (n1 + 3, D, .deferred (some []))]
section
variable {T : FuncId → Option Summ} {X : Xtra} {nt n0 : Nat} {LT : Nat → Option LoopS}
def noLT : Nat → Option LoopS := fun _ => none
theorem loopsOK_none {X : Xtra} (l : List Code) : LoopsOK P T X nt n0 noLT l := fun b _ S h => by cases h
theorem scopesOK_none {X : Xtra} (l : List Code) : ScopesOK P T X nt n0 noLT l := fun b _ i S _ h => by cases h
theorem rangesOK_none {X : Xtra} (l : List Code) : RangesOK P X nt n0 noLT l := fun b _ g ps x y _ S h => by cases h
theorem yield_ok (hm : P.follows .mixedOrders = true) (hT : SoundT P T) {G : Ctx} {m0 : GM} {n1 l D fn : Nat} {t : Array Value} {ps : Array Tmp} {x y : Code} {wr wrI : List Nat} {jump : Xt} {env : Env}
    (he : ERel (G.withGh (ghOfLoop n1 l D (recOf fn t ps x y D) jump)) m0 env ⟨t, []⟩) (hlen : m0.length = n1 + 4) (hDl : D ≠ l) (hs : G.w0.heap.size ≤ l)
    (h0 : ∃ g o, m0[n1]? = some g ∧ g.blk = some (l, o) ∧ g.addr = none) (h1 : ∃ g, m0[n1 + 1]? = some g ∧ g.addr = none) (h2 : ∃ g, m0[n1 + 2]? = some g ∧ g.addr = none) :
    YOK P (G.withGh (ghOfLoop n1 l D (recOf fn t ps x y D) jump)) m0 (n1 + 4) ⟨wrI, false, some (yieldOf P T wr nt noLT env ps.toList x y jump n1), noJn⟩ := by
  intro y0 hy m h w args xs l' Kc r hn0 hpin hi hx hrel hrun n
  cases hy
  have hpre0 : Pre m0 m := fun i g hg => by
    have := (List.getElem?_eq_some_iff.1 hg).1
    rw [hpin i (by omega)]; exact hg
  obtain ⟨g0, o0, hg0, hb0, ha0⟩ := h0
  obtain ⟨g1, hg1, ha1⟩ := h1
  obtain ⟨g2, hg2, ha2⟩ := h2
  have hll : l' = l := by
    obtain ⟨g, l2, o, q1, q2, q3⟩ := hrel
    have q1' : m[n1]? = some g := q1
    rw [hpre0 _ _ hg0] at q1'
    cases q1'
    rw [hb0] at q2
    cases q2
    injection q3 with q3
    injection q3
  subst hll
  simp only [yieldOf] at hrun
  split at hrun
  · cases hrun
  rename_i hcnd
  simp only [Bool.not_eq_true, Bool.not_eq_false', Bool.and_eq_true, isGhost_iff, isNone_iff, beq_iff_eq] at hcnd
  obtain ⟨⟨⟨c0, c1⟩, c2⟩, c3⟩ := hcnd
  rw [frcN_eq, frcAs_eq] at hrun
  have mem0 : (n1, l', Obj.loop (recOf fn t ps x y D .ready none)) ∈ (G.withGh (ghOfLoop n1 l' D (recOf fn t ps x y D) jump)).gh := by simp [Ctx.withGh, ghOfLoop]
  have mem1 : (n1 + 1, l', Obj.loop (recOf fn t ps x y D .busy none)) ∈ (G.withGh (ghOfLoop n1 l' D (recOf fn t ps x y D) jump)).gh := by simp [Ctx.withGh, ghOfLoop]
  obtain ⟨hready, _⟩ := (hi.gh _ mem0).2 _ c0
  have hsz : xs.toArray.size = (recOf fn t ps x y D .ready none).params.size := by
    have := hx.length_eq
    simp only [recOf]
    rw [← Array.length_toList (xs := ps), ← c3]
    simpa using this.symm
  refine ⟨fn, _, x, y, run_yield hready hsz, roundIn_of_wpIn trivial ?_⟩
  have hgn : ∀ z ∈ (G.withGh (ghOfLoop n1 l' D (recOf fn t ps x y D) jump)).gh, z.1 < h.length := fun z hz => (hi.gh z hz).1
  have hst : ∀ mm : GM, Std P ⟨wr, true, none, noJn⟩ h.length mm (G.withGh (ghOfLoop n1 l' D (recOf fn t ps x y D) jump)) := fun mm => ⟨fun y hy => (by cases hy), hgn, fun h => (by cases h)⟩
  have hml : h.length ≤ m.length := Nat.le_of_eq hi.len.symm
  have hact : (⟨((recOf fn t ps x y D .ready none).params.zip xs.toArray).foldl (fun tmps (t, a) => tmps.setIfInBounds t a) (recOf fn t ps x y D .ready none).tmps, []⟩ : Act) =
      ⟨(ps.toList.zip xs).foldl (fun t (p : Tmp × Value) => t.setIfInBounds p.1 p.2) t, []⟩ := by
    simp only [recOf]
    rw [← Array.foldl_toList]
    simp
  rw [hact]
  have he1 := setAll_rel (G := G.withGh (ghOfLoop n1 l' D (recOf fn t ps x y D) jump)) rfl ps.toList args xs env t (he.mono hpre0) hx
  refine evC_wp (ro := some l') (n := n) (m0 := m) (fun h => by cases h) (fun h => by cases h) hm hT x (loopsOK_none _) (scopesOK_none _) (rangesOK_none _) (hst m) (Pin.refl hml) hi he1 hrun ?_
  intro G2 hG2 e env2 h2' m2 a2 w2 hK hi2 hp2 he2
  obtain rfl : G2 = G.withGh (ghOfLoop n1 l' D (recOf fn t ps x y D) jump) := by
    rcases hG2 with h | ⟨h, _⟩
    · exact h
    · cases h
  cases e with
  | exit i => cases hK
  | goto i => cases hK
  | ret => cases hK
  | normal =>
    simp only at hK
    split at hK
    · cases hK
    rename_i hcnd2
    simp only [Bool.not_eq_true, Bool.not_eq_false', Bool.and_eq_true, isGhost_iff, isNone_iff] at hcnd2
    obtain ⟨⟨d0, d1⟩, d2⟩ := hcnd2
    rw [frcH_eq] at hK
    obtain ⟨hready2, _⟩ := (hi2.gh _ mem0).2 _ d0
    refine ⟨_, run_beginRound hready2 rfl, ?_⟩
    have hpre2 : Pre m m2 := Pre.of_pin (by rw [hi.len]; exact hp2)
    have dead : ∀ {hh : Heap}, hget hh (n1 + 1) = none → hget hh (n1 + 2) = none → ∀ z ∈ (G.withGh (ghOfLoop n1 l' D (recOf fn t ps x y D) jump)).gh, z.2.1 = l' → z.1 ≠ n1 → hget hh z.1 = none := by
      intro hh e1 e2 z hz hl hne
      simp only [Ctx.withGh, ghOfLoop, List.mem_cons, List.not_mem_nil, or_false] at hz
      rcases hz with rfl | rfl | rfl | rfl
      · exact absurd rfl hne
      · exact e1
      · exact e2
      · exact absurd hl hDl
    have dead1 : ∀ {hh : Heap}, hget hh n1 = none → hget hh (n1 + 2) = none → ∀ z ∈ (G.withGh (ghOfLoop n1 l' D (recOf fn t ps x y D) jump)).gh, z.2.1 = l' → z.1 ≠ n1 + 1 → hget hh z.1 = none := by
      intro hh e1 e2 z hz hl hne
      simp only [Ctx.withGh, ghOfLoop, List.mem_cons, List.not_mem_nil, or_false] at hz
      rcases hz with rfl | rfl | rfl | rfl
      · exact e1
      · exact absurd rfl hne
      · exact e2
      · exact absurd hl hDl
    have fact : ∀ (k : Nat) (o2 : Obj), (n1 + k, l', o2) ∈ (G.withGh (ghOfLoop n1 l' D (recOf fn t ps x y D) jump)).gh → k < 3 → ∀ z ∈ (G.withGh (ghOfLoop n1 l' D (recOf fn t ps x y D) jump)).gh, z.1 = n1 + k → z.2.1 = l' ∧ z.2.2 = o2 := by
      intro k o2 hk hk3 z hz he
      simp only [Ctx.withGh, ghOfLoop, List.mem_cons, List.not_mem_nil, or_false, Prod.mk.injEq] at hk hz
      rcases hz with rfl | rfl | rfl | rfl <;> simp only at he <;> rcases hk with ⟨k1, _, k3⟩ | ⟨k1, _, k3⟩ | ⟨k1, _, k3⟩ | ⟨k1, k2, k3⟩ <;> first
        | omega
        | exact ⟨rfl, k3.symm⟩
    have hib := hi2.flip (o2 := .loop (recOf fn t ps x y D .busy none)) hready2 rfl rfl hs (dead d1 d2) ((hpre0.trans hpre2) _ _ hg1) ha1 (fact 1 _ mem1 (by omega))
    refine evC_wp (ro := some l') (n := n) (m0 := m2) (fun h => by cases h) (fun h => by cases h) hm hT y (loopsOK_none _) (scopesOK_none _) (rangesOK_none _) (hst m2) (Pin.refl hp2.1) hib he2 hK ?_
    intro G3 hG3 e env3 h3 m3 a3 w3 hK3 hi3 hp3 he3
    obtain rfl : G3 = G.withGh (ghOfLoop n1 l' D (recOf fn t ps x y D) jump) := by
      rcases hG3 with h | ⟨h, _⟩
      · exact h
      · cases h
    simp only at hK3
    split at hK3
    · cases hK3
    rename_i hcnd3
    simp only [Bool.not_eq_true, Bool.not_eq_false', Bool.and_eq_true, isGhost_iff, isNone_iff] at hcnd3
    obtain ⟨⟨f1, f0⟩, f2⟩ := hcnd3
    obtain ⟨hbusy, _⟩ := (hi3.gh _ mem1).2 _ f1
    have hpre3 : Pre m m3 := Pre.of_pin (by rw [hi.len]; exact hp2.trans hp3)
    have hpre03 := hpre0.trans hpre3
    have leave : ∀ {e : Xt}, (if e = jump then frcH (hset (hset h3 (n1 + 1) none) (n1 + 2) (some ⟨false, []⟩)) fun h4 => Kc false h4 else none) = some r →
        ∃ v w', (Instr.endRound l' (some (jumpCode e))).run P w3 = .ok v w' ∧ ∃ b h' m', Ending.returned v = .returned (.bool b) ∧ Kc b h' = some r ∧ Inv (G.withGh (ghOfLoop n1 l' D (recOf fn t ps x y D) jump)) m' h' w' ∧ Pre m m' := by
      intro e hk
      split at hk
      · rename_i hej
        subst hej
        rw [frcH_eq] at hk
        exact ⟨_, _, run_endRound _ hbusy, false, _, m3, rfl, hk, hi3.flip (o2 := .loop (recOf fn t ps x y D .done (some (jumpCode e)))) hbusy rfl rfl hs (dead1 f0 f2) (hpre03 _ _ hg2) ha2 (fact 2 _ (by simp [Ctx.withGh, ghOfLoop]) (by omega)), hpre3⟩
      · cases hk
    cases e with
    | normal =>
      simp only at hK3
      rw [frcH_eq] at hK3
      exact ⟨_, _, run_endRound none hbusy, true, _, m3, rfl, hK3, hi3.flip (o2 := .loop (recOf fn t ps x y D .ready none)) hbusy rfl rfl hs (dead1 f0 f2) (hpre03 _ _ hg0) ha0 (fact 0 _ mem0 (by omega)), hpre3⟩
    | exit i => exact leave hK3
    | goto i => exact leave hK3
    | ret => exact leave hK3
theorem Inv.rebase {G : Ctx} {m : GM} {h : Heap} {w : World} (hi : Inv G m h w) (hgh : G.gh = []) {D : Nat} (hD : w.heap[D]? = some (.deferred (some []))) (hs : G.w0.heap.size ≤ D) :
    ∃ G2 : Ctx, G2.dfs = { target := .collected D, args := #[] } :: G.dfs ∧ SubR G G2 ∧ Inv G2 m h w := by
  let O : Nat → Prop := fun b => ∃ id ob g c, hget h id = some ob ∧ ob.ro = false ∧ m[id]? = some g ∧ g.addr = some c ∧ c.1 = b
  have cellsO : ∀ b, O b → ∃ blk t fr, w.heap[b]? = some (.cells blk t fr) := by
    rintro b ⟨id, ob, g, c, h1, h2, h3, h4, rfl⟩
    exact hi.cellsAt h1 h3 h4
  have subO : ∀ b, O b → G.O b ∨ G.w0.heap.size ≤ b := by
    rintro b ⟨id, ob, g, c, h1, h2, h3, h4, rfl⟩
    have := hi.own id ob g c h1 h3 h4
    rw [h2] at this
    simpa [Own] using this
  have notO : ∀ {b : Nat} {o : Obj}, w.heap[b]? = some o → o.isCells = false → ¬ O b := by
    intro b o h1 h2 h3
    obtain ⟨blk, t, fr, h4⟩ := cellsO b h3
    rw [h1] at h4
    rw [Option.some.inj h4] at h2
    cases h2
  have hd2 : ∀ d ∈ ({ target := .collected D, args := #[] } : Deferred) :: G.dfs, ∃ D', d = { target := .collected D', args := #[] } ∧ w.heap[D']? = some (.deferred (some [])) ∧ ¬ O D' := by
    intro d hd
    rcases List.mem_cons.1 hd with rfl | hd
    · exact ⟨D, rfl, hD, notO hD rfl⟩
    · obtain ⟨D', rfl, h1, h2⟩ := G.hd d hd
      have h3 : w.heap[D']? = some (.deferred (some [])) := by rw [hi.frame _ (Array.getElem?_eq_some_iff.1 h1).1 h2]; exact h1
      exact ⟨D', rfl, h3, notO h3 rfl⟩
  have hnd2 : (({ target := .collected D, args := #[] } : Deferred) :: G.dfs).Pairwise (· ≠ ·) := by
    refine List.pairwise_cons.2 ⟨fun d hd e => ?_, G.nd⟩
    obtain ⟨D', rfl, h1, _⟩ := G.hd d hd
    injection e with e _
    injection e with e
    have := (Array.getElem?_eq_some_iff.1 h1).1
    omega
  refine ⟨⟨w, O, fun b => ¬ G.O b ∧ b < G.w0.heap.size ∧ G.R b, _, hd2, hnd2, []⟩, rfl, ⟨fun {m' h' w'} i2 => ?_, hgh.symm, fun d hd => ?_, hi.size⟩, ?_⟩
  · refine ⟨i2.len, i2.obs, fun id ob g b h1 h2 h3 => ?_, i2.dist, hi.str.trans i2.str, Nat.le_trans hi.size i2.size, fun b hb hO => ?_, hi.fz, fun x hx => (by rw [hgh] at hx; cases hx)⟩
    · have := i2.own id ob g b h1 h2 h3
      cases hro : ob.ro with
      | false =>
        rw [hro] at this
        simp only [Own, Bool.false_eq_true, if_false] at this ⊢
        rcases this with h4 | h4
        · exact subO _ h4
        · exact .inr (Nat.le_trans hi.size h4)
      | true =>
        rw [hro] at this
        simp only [Own, if_true] at this ⊢
        exact this.2.2
    · have h1 : w'.heap[b]? = w.heap[b]? := i2.frame b (Nat.lt_of_lt_of_le hb hi.size) (fun h2 => by
        rcases subO b h2 with h3 | h3
        · exact hO h3
        · omega)
      rw [h1]; exact hi.frame b hb hO
  · rcases List.mem_cons.1 hd with rfl | hd
    · exact .inr ⟨D, rfl, hs⟩
    · exact .inl hd
  · refine ⟨hi.len, hi.obs, fun id ob g b h1 h2 h3 => ?_, hi.dist, Str.refl w, Nat.le_refl _, fun _ _ _ => rfl, fun a cap cs ok => ?_, fun x hx => (by cases hx)⟩
    · have ho := hi.own id ob g b h1 h2 h3
      cases hro : ob.ro with
      | false =>
        simp only [Own, Bool.false_eq_true, if_false]
        exact .inl ⟨id, ob, g, b, h1, hro, h2, h3, rfl⟩
      | true =>
        rw [hro] at ho
        simp only [Own, if_true] at ho ⊢
        refine ⟨?_, hi.block_lt h1 h2 h3, ho⟩
        rintro ⟨i', o', g', b', q1, q2, q3, q4, q5⟩
        have h5 := hi.own i' o' g' b' q1 q3 q4
        rw [q2] at h5
        simp only [Own, Bool.false_eq_true, if_false] at h5
        rw [q5] at h5
        rcases h5 with h5 | h5
        · exact ho.1 h5
        · omega
    · rcases hi.fz a cap cs ok with hf | ⟨b, blk, t, fr, h1, h2, h3, h4, h5, h6⟩
      · exact .inl hf
      · have hlt := (Array.getElem?_eq_some_iff.1 h2).1
        refine .inr ⟨b, blk, t, fr, h1, by show w.heap[b.1]? = _; rw [hi.frame _ hlt h6]; exact h2, h3, h4, h5, fun h0 => ?_⟩
        rcases subO _ h0 with h7 | h7
        · exact h6 h7
        · omega
theorem hget_ghosts (h : Heap) : hget (h ++ ghosts) h.length = some ⟨false, []⟩ ∧ hget (h ++ ghosts) (h.length + 1) = none ∧ hget (h ++ ghosts) (h.length + 2) = none ∧ hget (h ++ ghosts) (h.length + 3) = some ⟨false, []⟩ := by
  refine ⟨?_, ?_, ?_, ?_⟩ <;> (rw [hget_append_right (by omega)]) <;> simp [ghosts, hget]
theorem rangeOK_of {jump : Xt} (hj : jump ≠ .normal) (hX : X.rd = false) (hXy : X.y = none) (hm : P.follows .mixedOrders = true) (hT : SoundT P T) {s : Sh} {live : List Nat} {out : Xt → List Nat} (l : s.den → KL → Option Res) {g : Operand} {ps : Array Tmp} {x y : Code}
    (itl : s.den → Nat → Option LoopS) {f : FuncId} {fn : Func} {c : Code} {wrI : List Nat} (henter : ∀ args w, (callFunc f args).run P w = .ok (.enter f args) w) (hf : P.funcs[f]? = some fn) (hb : fn.body = some c) (hres : fn.results = #[])
    (hs : ∀ d K, l d K = rangeOf P T X nt (mkG s live out l) g ps.toList x y ⟨f, c, fn.ntmps, itl d, wrI⟩ noLT jump (encT s.vs d.1) (encH s.h d.2) K)
    (hl : ∀ d, LoopsOK P T ⟨wrI, false, some (yieldOf P T X.wr nt noLT (mkEnv nt live (avsOf (encT s.vs d.1))) ps.toList x y jump s.h.length), noJn⟩ fn.ntmps (s.h.length + 4) (itl d) (loopsOf c))
    (hsc : ∀ d, ScopesOK P T ⟨wrI, false, some (yieldOf P T X.wr nt noLT (mkEnv nt live (avsOf (encT s.vs d.1))) ps.toList x y jump s.h.length), noJn⟩ fn.ntmps (s.h.length + 4) (itl d) (scopesOf c))
    (hrg : rangesOf c = []) : RangeOK P X nt n0 (mkG s live out l) (.rangeFunc g ps x y) := by
  intro G m h w a vs K r Q n hgh hn0 hi hnt hdf hx hrun hq
  obtain ⟨d, rfl, rfl, h3⟩ := mkG_run hrun
  rw [hs] at h3
  have he : ERel G m (mkEnv nt live (avsOf (encT s.vs d.1))) a := mkEnv_rel hnt hdf live _ (avsOf_rel hx)
  unfold rangeOf at h3
  rw [frcAs_eq, frcN_eq] at h3
  have hlive : (mkG s live out l).live = live := rfl
  rw [hlive] at h3
  split at h3
  rotate_left
  · cases h3
  rename_i f' ids hfn
  split at h3
  rotate_left
  · cases h3
  rename_i hff
  subst hff
  rw [frcAs_eq, frcH_eq] at h3
  simp only [encH_length] at h3
  obtain ⟨bs, hgv, hcap⟩ := fnOf_rel he hfn
  refine wpIn_rangeFunc fun fn0 _ => ?_
  generalize hrec : recOf fn0 a.tmps ps x y w.heap.size = rec
  have hn1 : s.h.length = (encH s.h d.2).length := (encH_length _ _).symm
  -- the world in which the function is called
  let W1 : World := (w.alloc (.deferred (some []))).alloc (.loop (rec .ready none))
  have e1 : Ext w W1 := (ext_push w _).trans (ext_push _ _)
  have hK1 : W1.heap[w.heap.size]? = some (.deferred (some [])) := (ext_push _ _).get (push_get w _)
  have hL1 : W1.heap[w.heap.size + 1]? = some (.loop (rec .ready none)) := by
    have := push_get (w.alloc (.deferred (some []))) (.loop (rec .ready none))
    rwa [World.size_alloc] at this
  refine ⟨w.heap.size + 1, [{ target := .collected w.heap.size, args := #[] }], W1, { target := .fn (.func f') bs, args := #[.func (.yield (w.heap.size + 1)) #[] #[]] }, W1, f',
    #[.func (.yield (w.heap.size + 1)) #[] #[]] ++ bs, W1, ?_, ?_, fun _ _ => trivial, ?_, fun h0 => (by cases h0), ?_⟩
  · have := run_enterLoop_outer (P := P) (w := w) fn0 a.tmps ps x y
    simp only [W1]
    rw [← hrec]
    exact this
  · simp [resolve, hgv, Deferred.ofValue]
    rfl
  · simp only [invoke, henter]
  refine callsIn_of_wp_marks hf hb trivial ?_
  -- the iterator's care
  generalize hgl : ghOfLoop s.h.length (w.heap.size + 1) w.heap.size rec jump = gl
  let mg : GM := [⟨none, 0, fun _ => 0, fun _ => 0, some (w.heap.size + 1, .loop (rec .ready none))⟩, gh0, gh0, gh0]
  have hi1 : Inv G (m ++ mg) (encH s.h d.2 ++ ghosts) W1 := by
    have a0 := (hi.ext e1)
    have ng : ∀ x ∈ G.gh, ∀ (p : Nat), x.1 = p → W1.heap[x.2.1]? = some x.2.2 ∧ x.2.2.isCells = false := fun x hx => by rw [hgh] at hx; cases hx
    have a1 := a0.addNone ⟨none, 0, fun _ => 0, fun _ => 0, some (w.heap.size + 1, .loop (rec .ready none))⟩
    have a2 := a1.addNone gh0
    have a3 := a2.addNone gh0
    have a4 := a3.addNone gh0
    have hlm := hi.len
    have a5 := a4.revive (id := m.length) (g := ⟨none, 0, fun _ => 0, fun _ => 0, some (w.heap.size + 1, .loop (rec .ready none))⟩) (by simp) rfl fun x hx he => ng x hx _ he
    have a6 := a5.revive (id := m.length + 3) (g := gh0) (by simp) rfl fun x hx he => ng x hx _ he
    have e2 : m ++ [(⟨none, 0, fun _ => 0, fun _ => 0, some (w.heap.size + 1, .loop (rec .ready none))⟩ : Gh)] ++ [gh0] ++ [gh0] ++ [gh0] = m ++ mg := by simp [mg]
    have e3 : ∀ hh : Heap, hset (hset (hh ++ [none] ++ [none] ++ [none] ++ [none]) hh.length (some ⟨false, []⟩)) (hh.length + 3) (some ⟨false, []⟩) = hh ++ ghosts := by
      intro hh
      induction hh with
      | nil => rfl
      | cons z hh ih => simp only [List.cons_append, List.length_cons, hset]; rw [ih]
    rw [e2, hlm, e3] at a6
    exact a6
  have hml : m.length = s.h.length := hi.len.trans hn1.symm
  have hglen : ∀ x ∈ gl, x.1 < s.h.length + 4 := by
    rw [← hgl]
    intro x hx
    simp only [ghOfLoop, List.mem_cons, List.not_mem_nil, or_false] at hx
    rcases hx with rfl | rfl | rfl | rfl <;> simp
  obtain ⟨q0, q1, q2, q3⟩ := hget_ghosts (encH s.h d.2)
  rw [← hn1] at q0 q1 q2 q3
  have hiG : Inv (G.withGh gl) (m ++ mg) (encH s.h d.2 ++ ghosts) W1 := hi1.toGh fun x hx => ⟨by rw [List.length_append, ← hn1]; exact hglen x hx, fun ob ho => by
    rw [← hgl] at hx
    simp only [ghOfLoop, List.mem_cons, List.not_mem_nil, or_false] at hx
    rcases hx with rfl | rfl | rfl | rfl
    · exact ⟨hL1, rfl⟩
    · simp only at ho; rw [q1] at ho; cases ho
    · simp only at ho; rw [q2] at ho; cases ho
    · exact ⟨hK1, rfl⟩⟩
  have hpreM : Pre m (m ++ mg) := pre_append _ _
  have hmlen : (m ++ mg).length = s.h.length + 4 := by simp [mg, hml]
  have hm0 : (m ++ mg)[s.h.length]? = some ⟨none, 0, fun _ => 0, fun _ => 0, some (w.heap.size + 1, .loop (rec .ready none))⟩ := by
    rw [List.getElem?_append_right (by omega), hml]; simp [mg]
  have hm1 : (m ++ mg)[s.h.length + 1]? = some gh0 := by rw [List.getElem?_append_right (by omega), hml]; simp [mg]
  have hm2 : (m ++ mg)[s.h.length + 2]? = some gh0 := by rw [List.getElem?_append_right (by omega), hml]; simp [mg]
  have hsz : G.w0.heap.size ≤ w.heap.size := hi.size
  have heG : ERel (G.withGh gl) (m ++ mg) (mkEnv nt live (avsOf (encT s.vs d.1))) ⟨a.tmps, []⟩ := ⟨he.len, rfl, fun i => (he.val i).imp id (AVRel.mono hpreM)⟩
  have hY : YOK P (G.withGh gl) (m ++ mg) (s.h.length + 4) ⟨wrI, false, some (yieldOf P T X.wr nt noLT (mkEnv nt live (avsOf (encT s.vs d.1))) ps.toList x y jump s.h.length), noJn⟩ := by
    have := yield_ok (wr := X.wr) (wrI := wrI) (nt := nt) (T := T) hm hT (G := G) (m0 := m ++ mg) (n1 := s.h.length) (l := w.heap.size + 1) (D := w.heap.size) (fn := fn0) (t := a.tmps) (ps := ps) (x := x) (y := y) (jump := jump)
      (env := mkEnv nt live (avsOf (encT s.vs d.1))) (by rw [hrec, hgl]; exact heG) hmlen (by omega) (by omega) ⟨_, _, hm0, rfl, rfl⟩ ⟨_, hm1, rfl⟩ ⟨_, hm2, rfl⟩
    rw [hrec, hgl] at this
    exact this
  have hxI : TVs (m ++ mg) (.lf (.yld s.h.length) :: ptrs ids) ((#[.func (.yield (w.heap.size + 1)) #[] #[]] ++ bs : Array Value)).toList := by
    have : ((#[.func (.yield (w.heap.size + 1)) #[] #[]] ++ bs : Array Value)).toList = .func (.yield (w.heap.size + 1)) #[] #[] :: bs.toList := by simp
    rw [this]
    exact ⟨⟨_, _, _, hm0, rfl, rfl⟩, (ptrs_rel hcap).mono hpreM⟩
  have heI := argEnv_rel (n := fn.ntmps) hxI (G := G.withGh gl) rfl
  rw [Array.toArray_toList] at heI
  have hst : Std P ⟨wrI, false, some (yieldOf P T X.wr nt noLT (mkEnv nt live (avsOf (encT s.vs d.1))) ps.toList x y jump s.h.length), noJn⟩ (s.h.length + 4) (m ++ mg) (G.withGh gl) :=
    ⟨hY, hglen, fun h0 => (by simp at h0)⟩
  refine evC_wp (ro := none) (n := n - 1) (m0 := m ++ mg) (fun _ => rfl) (fun _ => rfl) hm hT c (hl d) (hsc d) (by rw [hrg]; exact rangesOK_nil) hst (Pin.refl (Nat.le_of_eq hmlen.symm)) hiG heI h3 ?_
  intro G2 hG2 e envI h' m' a' w' hK hi' hp he'
  obtain rfl : G2 = G.withGh gl := by
    rcases hG2 with h0 | ⟨h0, _⟩
    · exact h0
    · simp at h0
  have hpre : Pre m m' := hpreM.trans (Pre.of_pin (by rw [hmlen]; exact hp))
  have hnil : a'.defers = [] := he'.dfr
  have memR : (s.h.length, w.heap.size + 1, Obj.loop (rec .ready none)) ∈ gl := by rw [← hgl]; simp [ghOfLoop]
  have memD : (s.h.length + 2, w.heap.size + 1, Obj.loop (rec .done (some (jumpCode jump)))) ∈ gl := by rw [← hgl]; simp [ghOfLoop]
  have memF : (s.h.length + 3, w.heap.size, Obj.deferred (some [])) ∈ gl := by rw [← hgl]; simp [ghOfLoop]
  -- behind the function: the ghosts are laid down; the record is shut
  have leave : ∀ {e2 : Xt} {st : LoopState} {pe : Option Code} (hrd : w'.heap[w.heap.size + 1]? = some (.loop (rec st pe))) (hfd : w'.heap[w.heap.size]? = some (.deferred (some []))),
      loopOut nt (mkG s live out l) e2 (mkEnv nt live (avsOf (encT s.vs d.1))) (gone h' s.h.length) K = some r →
      Q (exitOf e2) { a with defers := [{ target := .collected w.heap.size, args := #[] }] ++ a.defers } (w'.putObj (w.heap.size + 1) (.loop { rec st pe with state := .exhausted })) := by
    intro e2 st pe hrd hfd hk
    unfold loopOut at hk
    split at hk
    rotate_left
    · cases hk
    have hi2 : Inv (G.withGh gl) m' (gone h' s.h.length) w' := (((hi'.drop _).drop _).drop _).drop _
    have hi3 := hi2.ofGh hgh
    have hi4 := hi3.turn (o' := .loop { rec st pe with state := .exhausted }) hrd rfl (by omega) (by rw [hgh]; intro x hx; cases hx)
    have hfd4 : (w'.putObj (w.heap.size + 1) (.loop { rec st pe with state := .exhausted })).heap[w.heap.size]? = some (.deferred (some [])) := by
      rw [World.putObj_heap_other (by omega)]; exact hfd
    obtain ⟨G3, g1, g2, g3⟩ := hi4.rebase hgh hfd4 hsz
    refine hq G3 (.inr ⟨by rw [hX, hXy]; rfl, g2⟩) _ _ _ _ _ _ hk g3 ?_ hnt ?_ ?_
    · exact Pin.of_pre hn0 hpre
    · rw [g1, ← hdf]; rfl
    · refine SlotsRel.tmps (a := a) ?_ ((getAll_rel he _).mono hpre)
      rfl
  have fin : (cond (isGhost (hget h' s.h.length) && isNone (hget h' (s.h.length + 2)) && isGhost (hget h' (s.h.length + 3))) (frcH (gone h' s.h.length) fun h4 => loopOut nt (mkG s live out l) .normal (mkEnv nt live (avsOf (encT s.vs d.1))) h4 K)
        (cond (isNone (hget h' s.h.length) && isGhost (hget h' (s.h.length + 2)) && isGhost (hget h' (s.h.length + 3))) (frcH (gone h' s.h.length) fun h4 => loopOut nt (mkG s live out l) jump (mkEnv nt live (avsOf (encT s.vs d.1))) h4 K) none)) = some r →
      LeavesInM Fence.wide (n - 1) P fn a'.tmps (rangePost Fence.wide n P (w.heap.size + 1) Q { a with defers := [{ target := .collected w.heap.size, args := #[] }] ++ a.defers }) a'.defers .returning w' := by
    intro hk
    rw [hnil]
    have hresr : ∃ v, (results fn a'.tmps).run P w' = .ok v w' := by
      unfold results
      rw [hres]
      simp
    obtain ⟨v, hv⟩ := hresr
    refine ⟨v, hv, ?_⟩
    cases hc1 : (isGhost (hget h' s.h.length) && isNone (hget h' (s.h.length + 2)) && isGhost (hget h' (s.h.length + 3))) with
    | true =>
      rw [hc1, cond_true, frcH_eq] at hk
      simp only [Bool.and_eq_true, isGhost_iff, isNone_iff] at hc1
      obtain ⟨hrd, _⟩ := (hi'.gh _ memR).2 _ hc1.1.1
      obtain ⟨hfd, _⟩ := (hi'.gh _ memF).2 _ hc1.2
      refine ⟨none, _, ?_, leave hrd hfd hk⟩
      have := run_endLoop (P := P) hrd (by rw [← hrec]; simp [recOf])
      rw [this, ← hrec]; rfl
    | false =>
      rw [hc1, cond_false] at hk
      cases hc2 : (isNone (hget h' s.h.length) && isGhost (hget h' (s.h.length + 2)) && isGhost (hget h' (s.h.length + 3))) with
      | false => rw [hc2] at hk; cases hk
      | true =>
        rw [hc2, cond_true, frcH_eq] at hk
        simp only [Bool.and_eq_true, isGhost_iff, isNone_iff] at hc2
        obtain ⟨hrd, _⟩ := (hi'.gh _ memD).2 _ hc2.1.2
        obtain ⟨hfd, _⟩ := (hi'.gh _ memF).2 _ hc2.2
        have hq2 := leave hrd hfd hk
        refine ⟨some (jumpCode jump), w'.putObj (w.heap.size + 1) (.loop { rec .done (some (jumpCode jump)) with state := .exhausted }), ?_, ?_⟩
        · have := run_endLoop (P := P) hrd (by rw [← hrec]; simp [recOf])
          rw [this, ← hrec]; rfl
        · cases jump with
          | exit i => exact wpIn_exit hq2
          | goto i => exact wpIn_goto hq2
          | ret => exact wpIn_ret hq2
          | normal => exact absurd rfl hj
  cases e with
  | normal => exact fin hK
  | ret => exact fin hK
  | exit i => cases hK
  | goto i => cases hK
end
def rgG : Code → Operand
  | .rangeFunc g _ _ _ => g
  | _ => .tmp 0
def rgP : Code → Array Tmp
  | .rangeFunc _ ps _ _ => ps
  | _ => #[]
def rgX : Code → Code
  | .rangeFunc _ _ x _ => x
  | c => c
def rgY : Code → Code
  | .rangeFunc _ _ _ y => y
  | c => c
end
end Go.Proofs.YtlgopekjjkdkiaaGreatDoor.Ev
end
section
namespace Go.Proofs.YtlgopekjjkdkiaaGreatDoor.Ev
open Go
set_option linter.unusedVariables false
set_option linter.unusedSectionVars false
section
abbrev En (P : Program) (f : FuncId) : Prop := ∀ args w, (callFunc f args).run P w = .ok (.enter f args) w
variable [FZ]
section
variable {P : Program} {T : FuncId → Option Summ} {X : Xtra} {nt n0 : Nat} {LT : Nat → Option LoopS} {c : Code}
theorem lnil (h : loopsOf c = [] := by kernel_rfl) : LoopsOK P T X nt n0 LT (loopsOf c) := by rw [h]; exact loopsOK_nil
theorem snil (h : scopesOf c = [] := by kernel_rfl) : ScopesOK P T X nt n0 LT (scopesOf c) := by rw [h]; exact scopesOK_nil
theorem rnil (h : rangesOf c = [] := by kernel_rfl) : RangesOK P X nt n0 LT (rangesOf c) := by rw [h]; exact rangesOK_nil
theorem sOf {P : Program} {T : FuncId → Option Summ} {X : Xtra} {LT : Nat → Option LoopS} (hT : SoundT P T) {f : FuncId} {fn : Func} {c : Code} {mv : List Nat} {kn : Bool} {s : Sh} {l : s.den → KF → Option Res} {other : Summ}
    (ho : SoundFn P f other) (hl : LoopsOK P T X fn.ntmps s.h.length LT (loopsOf c)) (hsc : ScopesOK P T X fn.ntmps s.h.length LT (scopesOf c)) (hrg : RangesOK P X fn.ntmps s.h.length LT (rangesOf c))
    (hev : ∀ d K, evBody P T X fn.ntmps s.h.length LT mv kn c fn.results.toList (encT s.vs d.1) (encH s.h d.2) K = l d K) (hX : X.rd = false := by rfl) (hXy : X.y = none := by rfl) (hm : P.follows .mixedOrders = true := by kernel_rfl) (hf : P.funcs[f]? = some fn := by kernel_rfl) (hb : fn.body = some c := by kernel_rfl)
    (hjn : ∀ n, X.jn n = none := by intro n; rfl) : SoundFn P f (mkS s l other) :=
  soundFn_of hX hXy hm hT hf hb ho hl hsc hrg hev hjn
theorem enO {P : Program} {f : FuncId} {fn : Func} (hf : P.funcs[f]? = some fn := by kernel_rfl) (hname : (fn.name == "runtime.NumGoroutine") = false := by kernel_rfl) (hb : fn.body.isSome = true := by kernel_rfl) : En P f := enter_of hf hname hb
end
abbrev So (P : Program) (f : FuncId) (S : Nat → Summ → Summ) : Prop := ∀ (F : Nat) (o : Summ), SoundFn P f o → SoundFn P f (S F o)
@[reducible] noncomputable def EB (P : Program) (T : FuncId → Option Summ) (X : Xtra) (nt n0 : Nat) (LT : Nat → Option LoopS) (mv : List Nat) (kn : Bool) (fn : Func) (s : Sh) (d : s.den) (K : KF) : Option Res :=
  evBody P T X nt n0 LT mv kn (bodyOf fn) fn.results.toList (encT s.vs d.1) (encH s.h d.2) K
end
end Go.Proofs.YtlgopekjjkdkiaaGreatDoor.Ev
end
section
namespace Go.Proofs.YtlgopekjjkdkiaaGreatDoor.X
open Go Go.Proofs.YtlgopekjjkdkiaaGreatDoor.Ev Go.Proofs
set_option linter.unusedVariables false
set_option linter.unusedSectionVars false
section
noncomputable def f183_1 {β : Type} (F : Nat) (a1 a2 : Int) (K0 : Int → Int → Option β) : Option β := K0 (IntKind.u64.wrap ((IntKind.u64.wrap ((IntKind.u64.wrap ((ishr .u64 a1 32) * (ishr .u64 a2 32))) + (ishr .u64 (IntKind.u64.wrap ((IntKind.u64.wrap ((ishr .u64 a1 32) * (iand .u64 a2 4294967295))) + (ishr .u64 (IntKind.u64.wrap ((iand .u64 a1 4294967295) * (iand .u64 a2 4294967295))) 32))) 32))) + (ishr .u64 (IntKind.u64.wrap ((iand .u64 (IntKind.u64.wrap ((IntKind.u64.wrap ((ishr .u64 a1 32) * (iand .u64 a2 4294967295))) + (ishr .u64 (IntKind.u64.wrap ((iand .u64 a1 4294967295) * (iand .u64 a2 4294967295))) 32))) 4294967295) + (IntKind.u64.wrap ((iand .u64 a1 4294967295) * (ishr .u64 a2 32))))) 32))) (IntKind.u64.wrap (a1 * a2))
variable [FZ]
def sh183_1 : Sh := ⟨[.lf (.int .u64), .lf (.int .u64)], []⟩
abbrev Y183_1 := Int → Int → (Int → Int → Option Res) → Option Res
noncomputable def A183_1 (g : Y183_1) (d : sh183_1.den) (K : KF) : Option Res := g d.1.1 d.1.2.1 (fun y0 y1 => K [.lf (.int .u64 y0), .lf (.int .u64 y1)] [])
noncomputable def S183_1 (F : Nat) (o : Summ) : Summ := mkS sh183_1 (fun d K => A183_1 (f183_1 F) d K) o
noncomputable def code183 : Code := bodyOf Tryz.f183
theorem enter183 : En Tryz.prog 183 := enO (fn := Tryz.f183)
noncomputable def T183_1 (F : Nat) : FuncId → Option Summ := tab []
noncomputable def LT183_1 (F : Nat) : Nat → Option LoopS := ltab []
theorem E183_1 (F : Nat) (d : sh183_1.den) (K : KF) : EB Tryz.prog (T183_1 F) (xw []) 51 0 (LT183_1 F) [] false Tryz.f183 sh183_1 d K = A183_1 (f183_1 F) d K := by delta A183_1 f183_1 T183_1 LT183_1;   as_aux_lemma => kernel_rfl
theorem S183_1_ok : So Tryz.prog 183 S183_1 :=
  fun F o ho => sOf (fn := Tryz.f183) (c := code183) tab_nil ho lnil snil rnil (E183_1 F)
end
section
noncomputable def f135_1 {β : Type} (F : Nat) (a1 a2 : Int) (K0 : Int → Int → Option β) : Option β := f183_1 F a1 a2 (fun x1 x2 => K0 x1 x2) 
variable [FZ]
def sh135_1 : Sh := ⟨[.lf (.int .u64), .lf (.int .u64)], []⟩
abbrev Y135_1 := Int → Int → (Int → Int → Option Res) → Option Res
noncomputable def A135_1 (g : Y135_1) (d : sh135_1.den) (K : KF) : Option Res := g d.1.1 d.1.2.1 (fun y0 y1 => K [.lf (.int .u64 y0), .lf (.int .u64 y1)] [])
noncomputable def S135_1 (F : Nat) (o : Summ) : Summ := mkS sh135_1 (fun d K => A135_1 (f135_1 F) d K) o
noncomputable def code135 : Code := bodyOf Tryz.f135
theorem enter135 : En Tryz.prog 135 := enO (fn := Tryz.f135)
noncomputable def T135_1 (F : Nat) : FuncId → Option Summ := tab [(183, (S183_1 F noS))]
noncomputable def LT135_1 (F : Nat) : Nat → Option LoopS := ltab []
theorem E135_1 (F : Nat) (d : sh135_1.den) (K : KF) : EB Tryz.prog (T135_1 F) (xw []) 30 0 (LT135_1 F) [] false Tryz.f135 sh135_1 d K = A135_1 (f135_1 F) d K := by delta A135_1 f135_1 T135_1 S183_1 LT135_1;  generalize (f183_1 F : Y183_1) = c; as_aux_lemma => kernel_rfl
theorem S135_1_ok : So Tryz.prog 135 S135_1 :=
  fun F o ho => sOf (fn := Tryz.f135) (c := code135) (tab_cons (S183_1_ok F _ (noS_sound enter183)) tab_nil) ho lnil snil rnil (E135_1 F)
end
section
noncomputable def f68_1_l8 {β : Type} (F : Nat) (v4 : List ByteArray) (K0 : List ByteArray → Option β) : Nat → Int → List ByteArray → Option β
  | 0, _, _ => none
  | k + 1, v3, v5 => cond (decide (v3 < ((v5.length : Nat) : Int))) (cond (decide ((0 : Int) ≤ v3 ∧ v3 ≤ ((v5.length : Nat) : Int) ∧ ((v5.length : Nat) : Int) ≤ ((v5.length : Nat) : Int))) (cond (decide ((0 : Int) ≤ (0 : Int) ∧ (0 : Int) ≤ v3 ∧ v3 ≤ ((v5.length : Nat) : Int))) (f68_1_l8 F v4 K0 k (IntKind.i64.wrap (v3 + ((min (((v5.drop 0).take ((v3 - 0).toNat)).length) ((((v5.length : Nat) : Int) - v3).toNat) : Nat) : Int))) (v5.take (0 + v3.toNat) ++ (((v5.drop 0).take ((v3 - 0).toNat)).take ((((v5.length : Nat) : Int) - v3).toNat) ++ v5.drop ((0 + v3.toNat) + (min (((v5.drop 0).take ((v3 - 0).toNat)).length) ((((v5.length : Nat) : Int) - v3).toNat)))))) none) none) (K0 v5)
noncomputable def f68_1 {β : Type} (F : Nat) (a1 : Int) (a2 : List ByteArray) (K0 : List ByteArray → Option β) : Option β := cond (decide (a1 < 0)) (none) (f135_1 F (IntKind.u64.wrap ((a2.length : Nat) : Int)) (IntKind.u64.wrap a1) (fun x1 x2 => cond (decide (x1 > 0)) (none) (cond (decide (x2 > 9223372036854775807)) (none) (cond (decide ((0 : Int) ≤ IntKind.i64.wrap x2 ∧ IntKind.i64.wrap x2 ≤ IntKind.i64.wrap x2 ∧ IntKind.i64.wrap x2 ≤ 70368744177664 ∧ IntKind.i64.wrap x2 * 16 ≤ 70368744177664)) (f68_1_l8 F a2 (fun x6 => K0 x6) F ((min a2.length ((List.replicate ((IntKind.i64.wrap x2).toNat) ByteArray.empty).length) : Nat) : Int) ((List.replicate ((IntKind.i64.wrap x2).toNat) ByteArray.empty).take 0 ++ (a2.take ((List.replicate ((IntKind.i64.wrap x2).toNat) ByteArray.empty).length) ++ (List.replicate ((IntKind.i64.wrap x2).toNat) ByteArray.empty).drop (0 + (min a2.length ((List.replicate ((IntKind.i64.wrap x2).toNat) ByteArray.empty).length)))))) none))) )
variable [FZ]
def sh68_1 : Sh := ⟨[.lf (.full 0), .lf (.int .i64)], [some ⟨none, [.seq .str 0]⟩]⟩
abbrev Y68_1 := Int → List ByteArray → (List ByteArray → Option Res) → Option Res
noncomputable def A68_1 (g : Y68_1) (d : sh68_1.den) (K : KF) : Option Res := g d.1.2.1 d.2.1.2.1 (fun y1 => K [.lf (.full 1)] [some ⟨d.2.1.1, [.seq .str 0 d.2.1.2.1]⟩, some ⟨false, [.seq .str 0 y1]⟩])
noncomputable def S68_1 (F : Nat) (o : Summ) : Summ := mkS sh68_1 (fun d K => A68_1 (f68_1 F) d K) o
noncomputable def code68 : Code := bodyOf Tryz.f68
noncomputable def b68_0 : Code := cB (cB (cL (cR (cR (cR (cR (cR (cR (code68)))))))))
theorem loops68 : loopsOf code68 = [b68_0] := by kernel_rfl
theorem enter68 : En Tryz.prog 68 := enO (fn := Tryz.f68)
noncomputable def T68_1 (F : Nat) : FuncId → Option Summ := tab [(135, (S135_1 F noS))]
def sh68_1_l8 : Sh := ⟨[.lf (.full 1), .lf (.int .i64)], [some ⟨none, [.seq .str 0]⟩, some ⟨some false, [.seq .str 0]⟩]⟩
abbrev Y68_1_l8 := List ByteArray → (List ByteArray → Option Res) → Nat → Int → List ByteArray → Option Res
noncomputable def A68_1_l8 (g : Y68_1_l8) (k : Nat) (d : sh68_1_l8.den) (K : KL) : Option Res := g d.2.1.2.1 (fun y1 => K (.exit 0) [.tv (.lf (.full 1))] [some ⟨d.2.1.1, [.seq .str 0 d.2.1.2.1]⟩, some ⟨false, [.seq .str 0 y1]⟩]) k d.1.2.1 d.2.2.1.2.1
noncomputable def G68_1_8 (F k : Nat) : LoopS := mkG sh68_1_l8 [7, 8] (outT [(.exit 0, [7])]) (fun d K => A68_1_l8 (f68_1_l8 F) k d K) []
noncomputable def LT68_1 (F : Nat) : Nat → Option LoopS := ltab [(8, G68_1_8 F F)]
theorem L68_1_8 (F : Nat) : LoopOK Tryz.prog (T68_1 F) (xw []) 48 1 (LT68_1 F) (G68_1_8 F F) b68_0 :=
  loopOK_of (s := sh68_1_l8) (live := [7, 8]) (out := (outT [(.exit 0, [7])])) (mv := []) (fun k d K => A68_1_l8 (f68_1_l8 F) k d K) F (fun d K => by kernel_rfl)  (fun k d K => by delta A68_1_l8; refine (f68_1_l8.eq_2 ..).trans ?_; delta T68_1 S135_1 LT68_1; generalize (G68_1_8 F F) = c;  (try delta G68_1_8); generalize (f135_1 F : Y135_1) = c, (f68_1_l8 F : Y68_1_l8) = c; as_aux_lemma => kernel_rfl)
theorem E68_1 (F : Nat) (d : sh68_1.den) (K : KF) : EB Tryz.prog (T68_1 F) (xw []) 48 1 (LT68_1 F) [] false Tryz.f68 sh68_1 d K = A68_1 (f68_1 F) d K := by delta A68_1 f68_1 T68_1 S135_1 LT68_1;  delta G68_1_8; generalize (f135_1 F : Y135_1) = c, (f68_1_l8 F : Y68_1_l8) = c; as_aux_lemma => kernel_rfl
theorem S68_1_ok : So Tryz.prog 68 S68_1 :=
  fun F o ho => sOf (fn := Tryz.f68) (c := code68) (tab_cons (S135_1_ok F _ (noS_sound enter135)) tab_nil) ho (by rw [loops68]; exact (loopsOK_cons (by kernel_rfl) (L68_1_8 F) loopsOK_nil)) snil rnil (E68_1 F)
end
end Go.Proofs.YtlgopekjjkdkiaaGreatDoor.X
end
section
namespace Go.Proofs.YtlgopekjjkdkiaaGreatDoor.Ev
open Go Go.RowKit
set_option linter.unusedVariables false
set_option linter.unusedSimpArgs false
set_option linter.unusedSectionVars false
section
variable [FZ]
def scK (P : Program) (e : TypeId) : Option EK := match P.underlying e with
  | some (.int k) => some (.int k)
  | some .bool => some .bool
  | some .string => some .str
  | _ => none
def scS (P : Program) (e : TypeId) : Option SK := match P.underlying e with
  | some (.int k) => some (.int k)
  | some .bool => some .bool
  | some .string => some .str
  | _ => none
def wfS : (q : SK) → q.den → Prop
  | .int k, n => (Lit.int k n).wf = true
  | .bool, _ => True
  | .str, s => s.size ≤ maxLen
def wfE : (k : EK) → k.den → Prop
  | .int k, n => (Lit.int k n).wf = true
  | .bool, _ => True
  | .str, s => s.size ≤ maxLen
  | .pair a b, p => wfE a p.1 ∧ wfE b p.2
  | .sl q, x => x.dat.length ≤ maxLen ∧ ∀ y ∈ x.dat, wfS q y
def wfD : (s : SL) → s.den → Prop
  | .int k, n => (Lit.int k n).wf = true
  | .str, s => s.size ≤ maxLen
  | .seq k n, l => l.length = n ∧ ∀ x ∈ l, wfE k x
  | .sl q, x => wfE (.sl q) x
  | _, _ => True
def wfL : (l : List SL) → denL l → Prop
  | [], _ => True
  | s :: r, d => wfD s d.1 ∧ wfL r d.2
def appD : (a b : List SL) → denL a → denL b → denL (a ++ b)
  | [], _, _, y => y
  | _ :: r, b, x, y => (x.1, appD r b x.2 y)
theorem encL_app : ∀ (a b : List SL) (x : denL a) (y : denL b), encL (a ++ b) (appD a b x y) = encL a x ++ encL b y
  | [], _, _, _ => rfl
  | s :: r, b, x, y => by
    show s.enc x.1 :: encL (r ++ b) (appD r b x.2 y) = s.enc x.1 :: (encL r x.2 ++ encL b y)
    rw [encL_app r b]
theorem wfL_app : ∀ (a b : List SL) (x : denL a) (y : denL b), wfL a x → wfL b y → wfL (a ++ b) (appD a b x y)
  | [], _, _, _, _, h => h
  | s :: r, b, x, y, hx, hy => ⟨hx.1, wfL_app r b x.2 y hx.2 hy⟩
section
variable (P : Program)
def slFs (g : TypeId → Option (List SL)) : Nat → List Field → Option (List SL × Nat)
  | off, [] => some ([], off)
  | off, f :: r => if f.offset = off then (match g f.type, slFs g (off + P.cellsOf f.type) r with
    | some a, some (b, n) => some (a ++ b, n)
    | _, _ => none) else none
def slOf : Nat → TypeId → Option (List SL)
  | 0, _ => none
  | f + 1, t => match P.underlying t with
    | some (.int k) => some [.int k]
    | some .bool => some [.bool]
    | some .string => some [.str]
    | some (.array n e) => match scK P e with
      | some k => if P.cellsOf e = 1 ∧ P.cellsOf t = n then some [.seq k n] else none
      | none => none
    | some (.struct fs) => match slFs P (slOf f) 0 fs.toList with
      | some (l, n) => if n = P.cellsOf t then some l else none
      | none => none
    | some (.slice e) => match scS P e with
      | some q => if P.cellsOf e = 1 then some [.sl q] else none
      | none => none
    | _ => none
end
theorem pick_list {α : Type} {n : Nat} {R : Nat → α → Prop} (h : ∀ i, i < n → ∃ z, R i z) : ∃ l : List α, l.length = n ∧ ∀ i z, l[i]? = some z → R i z := by
  induction n with
  | zero => exact ⟨[], rfl, fun i z h => by simp at h⟩
  | succ n ih =>
    obtain ⟨l, h1, h2⟩ := ih fun i hi => h i (by omega)
    obtain ⟨z, hz⟩ := h n (by omega)
    refine ⟨l ++ [z], by simp [h1], fun i y hy => ?_⟩
    by_cases hi : i < n
    · rw [List.getElem?_append_left (by omega)] at hy; exact h2 i y hy
    · rw [List.getElem?_append_right (by omega)] at hy
      have : i = n := by
        have := (List.getElem?_eq_some_iff.1 hy).1
        simp at this; omega
      subst this
      rw [h1, Nat.sub_self] at hy
      cases hy; exact hz
theorem addr_add2 (a : Addr) (x y : Nat) : (a.add x).add y = a.add (x + y) := by
  unfold Addr.add
  by_cases hx : x = 0
  · subst hx; simp
  · by_cases hy : y = 0
    · subst hy; simp
    · simp [hx, hy, Nat.add_assoc]
theorem addr_add {a : Addr} (h : a.spot = none) (q : Nat) : a.add q = ⟨a.block, a.off + q, none⟩ := by
  cases a; simp only at h; subst h
  unfold Addr.add
  split
  · rename_i h; subst h; simp
  · simp
structure Shown (w : World) (k : EK) (l : List k.den) (g : Gh) (v : Value) : Prop where
  len : l.length ≤ maxLen
  wf : ∀ x ∈ l, wfE k x
  obj : ∀ m, ObRel m g w ⟨true, [.seq k 0 l]⟩
  blk : ∀ b, g.addr = some b → b.1 < w.heap.size
  rel : ∀ (m : GM) id, m[id]? = some g → LRel m (.full id) v
theorem ghOf_ln (b : Option (Nat × Nat)) (sz : Nat) (k : EK) (l : List k.den) : (ghOf b sz [.seq k 0 l]).ln 0 = l.length ∧ (ghOf b sz [.seq k 0 l]).ew 0 = k.w := by
  obtain ⟨h1, h2⟩ := ghOf_seq b sz [.seq k 0 l] 0 k 0 l [] (drop0 _)
  exact ⟨h1.symm, h2.symm⟩
theorem shown_none (w : World) (k : EK) {a : Option Addr} : Shown w k [] (ghOf none 0 [.seq k 0 []]) (.slice a 0 0) := by
  refine ⟨Nat.zero_le _, fun x hx => (by cases hx), fun m => ⟨ghOf_seq _ _ _, [], ⟨[], [], rfl, ⟨.inl rfl, rfl⟩, rfl⟩, .inl ⟨rfl, rfl⟩⟩, fun b hb => (by cases hb), fun m id hid => ?_⟩
  exact ⟨_, hid, _, a, 0, hid, by rw [(ghOf_ln none 0 k []).1]; rfl, by rw [(ghOf_ln none 0 k []).1]; simp, fun c h => (by cases h), by rw [(ghOf_ln none 0 k []).1]; simp, .inl rfl⟩
section
variable {P : Program} {H : Type} {enc : TypeId × Value → H} {w : World} {base : Nat} {spare : Nat → Bool} {held : Bool}
def Opn (m : GM) (sl : List SL) (cs : List Value) (ps : List MemPlace) : Prop := ∃ d : denL sl, OCells m (encL sl d) cs ∧ wfL sl d
theorem sc_open {e : TypeId} {k : EK} {fuel : Nat} {c : List Value} {x : DataW H × List MemPlace} (hk : scK P e = some k) (h : DataW.trod enc P w base spare held fuel e c = some x) :
    ∃ z : k.den, c = k.cv z ∧ wfE k z ∧ x.2 = [] := by
  unfold scK at hk
  split at hk
  · rename_i k' ht
    cases hk
    obtain ⟨n, rfl, rfl, hw⟩ := DataW.trod_int ht h
    exact ⟨n, rfl, hw, rfl⟩
  · rename_i ht
    cases hk
    obtain ⟨b, rfl, rfl⟩ := DataW.trod_bool ht h
    exact ⟨b, rfl, trivial, rfl⟩
  · rename_i ht
    cases hk
    obtain ⟨s, rfl, rfl, hs⟩ := DataW.trod_string ht h
    exact ⟨s, rfl, hs, rfl⟩
  · cases hk
theorem sc_list {e : TypeId} {k : EK} {fuel : Nat} (hk : scK P e = some k) : ∀ (n : Nat) (cs : List Value) (xs : List (DataW H × List MemPlace)), cs.length = n → xs.length = n →
    (∀ i, i < n → DataW.trod enc P w base spare held fuel e ((cs.drop i).take 1) = xs[i]?) → ∃ l : List k.den, cs = cvs k l ∧ l.length = n ∧ (∀ x ∈ l, wfE k x) ∧ xs.flatMap (·.2) = []
  | 0, cs, xs, hc, hx, _ => by
    have := List.eq_nil_of_length_eq_zero hc
    have h2 := List.eq_nil_of_length_eq_zero hx
    subst this; subst h2
    exact ⟨[], rfl, rfl, fun x hx => (by cases hx), rfl⟩
  | n + 1, [], xs, hc, hx, _ => by simp at hc
  | n + 1, c :: cs, [], hc, hx, _ => by simp at hx
  | n + 1, c :: cs, x :: xs, hc, hx, h => by
    have h0 := h 0 (by omega)
    simp only [List.drop_zero, List.take_succ_cons, List.take_zero, List.getElem?_cons_zero] at h0
    obtain ⟨z, hz, hw, hp⟩ := sc_open hk h0
    obtain ⟨l, h1, h2, h3, h4⟩ := sc_list hk n cs xs (by simpa using hc) (by simpa using hx) fun i hi => by simpa using h (i + 1) (by omega)
    refine ⟨z :: l, ?_, by simp [h2], fun y hy => ?_, by simp [hp, h4]⟩
    · rw [h1] ; simp only [cvs, ← hz]; rfl
    · rcases List.mem_cons.1 hy with rfl | hy
      · exact hw
      · exact h3 y hy
theorem slice_core {e t : TypeId} {k : EK} (ht : P.underlying t = some (.slice e)) (hc : P.cellsOf e = k.w) (el : ∀ n cs (x : DataW H × List MemPlace), DataW.trod enc P w 0 (fun _ => true) held n e cs = some x → ∃ z : k.den, cs = k.cv z ∧ wfE k z)
    {a0 : Option Addr} {n0 c0 fuel : Nat} {x : DataW H × List MemPlace} (hf : DataW.trod enc P w 0 (fun _ => true) held fuel t [.slice a0 n0 c0] = some x) :
    ∃ (l : List k.den) (g : Gh), Shown w k l g (.slice a0 n0 c0) := by
  rcases DataW.trod_slice ht hf with ⟨h1, _⟩ | ⟨a, len, cap, elems, rest, n, _, h1, hx, hb, hle, hmax, hlen, hel, hsp, _⟩
  · cases h1
    exact ⟨[], _, shown_none w k⟩
  · simp only [List.cons.injEq, Value.slice.injEq, and_true] at h1
    obtain ⟨rfl, rfl, rfl⟩ := h1
    obtain ⟨hrl, hr⟩ := hsp rfl
    by_cases hcap : c0 = 0
    · subst hcap
      have : n0 = 0 := by omega
      subst this
      exact ⟨[], _, shown_none w k⟩
    have each : ∀ i, i < c0 → ∃ z : k.den, wfE k z ∧ ∀ j, j < k.w → w.cell? (a.add (i * k.w + j)) = (k.cv z)[j]? := by
      intro i hi
      obtain ⟨y, hy⟩ : ∃ y, (w.cells? 0 (a.add (i * P.cellsOf e)) (P.cellsOf e)).bind (DataW.trod enc P w 0 (fun _ => true) held n e) = some y := by
        by_cases hil : i < n0
        · exact ⟨_, (hel i hil).trans (List.getElem?_eq_getElem (by omega))⟩
        · have h2 := hr (i - n0) (by omega)
          rw [show n0 + (i - n0) = i by omega] at h2
          exact ⟨_, h2.trans (List.getElem?_eq_getElem (by omega))⟩
      rw [hc, Option.bind_eq_some_iff] at hy
      obtain ⟨cs, hcs, hy⟩ := hy
      obtain ⟨z, hcv, hwz⟩ := el n cs _ hy
      obtain ⟨_, _, hget⟩ := World.cells?_some hcs
      refine ⟨z, hwz, fun j hj => ?_⟩
      have := hget j hj
      rw [hcv] at this
      rw [← this]
      have e9 : (a.add (i * k.w)).add j = a.add (i * k.w + j) := addr_add2 a _ _
      first | rw [e9] | rw [hc, e9]
    obtain ⟨l, hl1, hl2⟩ := pick_list (n := n0) (R := fun i z => wfE k z ∧ ∀ j, j < k.w → w.cell? (a.add (i * k.w + j)) = (k.cv z)[j]?) fun i hi => each i (by omega)
    have hwp := EK.w_pos k
    have cellOf : ∀ q, q < c0 * k.w → ∃ u, w.cell? (a.add q) = some u := by
      intro q hq
      have hdiv : q / k.w < c0 := Nat.div_lt_of_lt_mul (by rw [Nat.mul_comm]; exact hq)
      obtain ⟨z, _, hz⟩ := each (q / k.w) hdiv
      have h3 := hz (q % k.w) (Nat.mod_lt _ hwp)
      rw [Nat.mul_comm, Nat.div_add_mod] at h3
      have : q % k.w < (k.cv z).length := by rw [cv_length]; exact Nat.mod_lt _ hwp
      rw [List.getElem?_eq_getElem this] at h3
      exact ⟨_, h3⟩
    have hpos : 0 < c0 * k.w := Nat.mul_pos (by omega) hwp
    obtain ⟨blk, ty, fr, hblk, hspot, hget⟩ : ∃ blk ty fr, w.heap[a.block]? = some (.cells blk ty fr) ∧ a.spot = none ∧ ∀ q, w.cell? (a.add q) = blk[a.off + q]? := by
      obtain ⟨u, hu⟩ := cellOf 0 hpos
      rw [show a.add 0 = a by simp [Addr.add]] at hu
      unfold World.cell? at hu
      split at hu
      · rename_i c ty fr hh
        have hh' : w.heap[a.block]? = some (.cells c ty fr) := hh
        split at hu
        · cases hu
        · rename_i hsn
          have hsn' : a.spot = none := by
            cases hq : a.spot with
            | none => rfl
            | some _ => exact absurd (by simp [hq]) hsn
          refine ⟨c, ty, fr, hh', hsn', fun q => ?_⟩
          rw [addr_add hsn' q]
          unfold World.cell?
          simp only [hh']
          rfl
      · cases hu
    have hsize : a.off + c0 * k.w ≤ blk.size := by
      obtain ⟨u, hu⟩ := cellOf (c0 * k.w - 1) (by omega)
      rw [hget] at hu
      have := (Array.getElem?_eq_some_iff.1 hu).1
      omega
    obtain ⟨g1, g2⟩ := ghOf_ln (some (a.block, a.off)) blk.size k l
    have haddr : a = at_ (a.block, a.off) 0 := by
      cases a; simp only at hspot; subst hspot; simp [at_]
    have hcl : (cvs k l).length = n0 * k.w := by rw [cvs_length, hl1]
    have hmul : n0 * k.w ≤ c0 * k.w := Nat.mul_le_mul_right _ hle
    refine ⟨l, ghOf (some (a.block, a.off)) blk.size [.seq k 0 l], by omega, fun x hx => ?_, fun m => ⟨ghOf_seq _ _ _, cvs k l, ⟨cvs k l, [], (List.append_nil _).symm, ⟨.inl rfl, rfl⟩, rfl⟩, .inr ⟨(a.block, a.off), blk, ty, fr, rfl, hblk, rfl, ?_, fun j hj => ?_, fun h0 => by cases h0⟩⟩, fun b hb => ?_, fun m id hid => ?_⟩
    · obtain ⟨i, hi⟩ := List.getElem?_of_mem hx
      exact (hl2 i x hi).1
    · rw [hcl]; simp only [ghOf]; omega
    · rw [hcl] at hj
      have hdiv : j / k.w < n0 := Nat.div_lt_of_lt_mul (by rw [Nat.mul_comm]; exact hj)
      have hmod := Nat.mod_lt j hwp
      have h4 := (hl2 (j / k.w) (l.getD (j / k.w) k.zero) (by rw [List.getD_eq_getElem?_getD, List.getElem?_eq_getElem (by omega)]; rfl)).2 (j % k.w) hmod
      have h5 := cvs_getD k l (j / k.w) (by omega) (j % k.w) hmod
      rw [Nat.mul_comm, Nat.div_add_mod] at h4 h5
      rw [hget] at h4
      rw [h5]; exact h4
    · cases hb; exact (Array.getElem?_eq_some_iff.1 hblk).1
    · refine ⟨_, hid, _, some a, c0, hid, by rw [g1, hl1], by rw [g1]; omega, fun c h => (by cases h), by rw [g1]; simp, .inr ⟨(a.block, a.off), rfl, ?_, ?_⟩⟩
      · simp only [Nat.zero_mul, Nat.add_zero]; rw [← haddr]
      · rw [g2]; simp only [ghOf, Nat.zero_add, Nat.add_zero]; omega
theorem shown_fz {q : SK} {l : List q.ek.den} {g : Gh} {a0 : Option Addr} {n0 c0 : Nat} (h : Shown w q.ek l g (.slice a0 n0 c0)) : n0 = l.length ∧ FzW (Ctx.of w fun _ => False) a0 c0 (cvs q.ek l) := by
  have hrel := h.rel [g] 0 rfl
  obtain ⟨g1, hg1, g2, A, C, hg2, hv, hle, _, hln, hb⟩ := hrel
  cases hg1
  cases hg2
  cases hv
  obtain ⟨hsg, cs, hoc, hpl⟩ := h.obj []
  have hlen := (hsg 0 q.ek 0 l [] (drop0 _)).1
  have hew := (hsg 0 q.ek 0 l [] (drop0 _)).2
  obtain ⟨_, _, rfl, ⟨_, rfl⟩, rfl⟩ := hoc
  rw [List.append_nil] at hpl
  refine ⟨by rw [hlen], ?_⟩
  have hcl : (cvs q.ek l).length = l.length := by rw [cvs_length, ek_w, Nat.mul_one]
  rcases hb with hb | ⟨b, hb, hA, hsz⟩
  · refine .inl ⟨hb, ?_⟩
    have : l = [] := List.eq_nil_of_length_eq_zero (by omega)
    rw [this]; rfl
  · rcases hpl with ⟨_, h0⟩ | ⟨b', blk, t, fr, p1, p2, p3, p4, p5, _⟩
    · rw [hb] at h0; cases h0
    · rw [hb] at p1; cases p1
      rw [← hew, ek_w] at hsz
      refine .inr ⟨b, blk, t, fr, by rw [hA]; simp, p2, by omega, by omega, p5, fun h0 => h0⟩
theorem toL_inv (q : SK) (l : List q.ek.den) : ∃ d : List q.den, q.toL d = l := by
  cases q <;> exact ⟨l, rfl⟩
theorem wfS_toL {q : SK} {d : List q.den} (h : ∀ x ∈ q.toL d, wfE q.ek x) : ∀ x ∈ d, wfS q x := by
  cases q <;> exact h
theorem sc_ek {e : TypeId} {q : SK} (h : scS P e = some q) : scK P e = some q.ek := by
  unfold scS at h
  unfold scK
  split at h
  · rename_i k ht; cases h; simp only [ht]
  · rename_i ht; cases h; simp only [ht]
  · rename_i ht; cases h; simp only [ht]
  · cases h
theorem slFs_open {m : GM} {g : TypeId → Option (List SL)} {fuel : Nat} (ih : ∀ t sl cs (x : DataW H × List MemPlace), g t = some sl → DataW.trod enc P w base spare held fuel t cs = some x → Opn m sl cs x.2) :
    ∀ (fs : List Field) (off : Nat) (sl : List SL) (n : Nat) (cs : List Value) (xs : List (DataW H × List MemPlace)), slFs P g off fs = some (sl, n) → cs.length = n → xs.length = fs.length →
      (∀ (i : Nat) f, fs[i]? = some f → DataW.trod enc P w base spare held fuel f.type ((cs.drop f.offset).take (P.cellsOf f.type)) = xs[i]?) → Opn m sl (cs.drop off) (xs.flatMap (·.2))
  | [], off, sl, n, cs, xs, hs, hn, hx, _ => by
    simp only [slFs, Option.some.injEq, Prod.mk.injEq] at hs
    obtain ⟨rfl, rfl⟩ := hs
    have := List.eq_nil_of_length_eq_zero hx
    subst this
    exact ⟨(), by simp [encL, OCells, hn], trivial⟩
  | f :: fs, off, sl, n, cs, xs, hs, hn, hx, h => by
    simp only [slFs] at hs
    split at hs
    · rename_i hoff
      split at hs
      · rename_i a b n' ha hb
        simp only [Option.some.injEq, Prod.mk.injEq] at hs
        obtain ⟨rfl, rfl⟩ := hs
        cases xs with
        | nil => simp at hx
        | cons x xs =>
          have h0 := h 0 f rfl
          rw [hoff] at h0
          obtain ⟨d1, o1, w1⟩ := ih _ _ _ _ ha h0
          obtain ⟨d2, o2, w2⟩ := slFs_open ih fs _ _ _ cs xs hb hn (by simpa using hx) fun i f' hf => by simpa using h (i + 1) f' (by simpa using hf)
          refine ⟨appD _ _ d1 d2, ?_, wfL_app _ _ _ _ w1 w2⟩
          rw [encL_app]
          refine ocells_append.2 ⟨_, _, ?_, o1, o2⟩
          rw [← List.drop_drop, List.take_append_drop]
      · cases hs
    · cases hs
theorem slOf_open {m : GM} (hfz : ∀ a cap cs, FzW (Ctx.of w fun _ => False) a cap cs → FZ.ok a cap cs) : ∀ (f : Nat) (t : TypeId) (sl : List SL) (fuel : Nat) (cs : List Value) (x : DataW H × List MemPlace), slOf P f t = some sl →
    DataW.trod enc P w 0 (fun _ => true) held fuel t cs = some x → Opn m sl cs x.2
  | 0, t, sl, fuel, cs, x, hs, h => by simp [slOf] at hs
  | f + 1, t, sl, fuel, cs, x, hs, h => by
    simp only [slOf] at hs
    split at hs
    · rename_i k ht
      cases hs
      obtain ⟨n, rfl, rfl, hw⟩ := DataW.trod_int ht h
      exact ⟨(n, ()), ⟨[_], [], rfl, ⟨_, rfl, rfl⟩, rfl⟩, ⟨hw, trivial⟩⟩
    · rename_i ht
      cases hs
      obtain ⟨b, rfl, rfl⟩ := DataW.trod_bool ht h
      exact ⟨(b, ()), ⟨[_], [], rfl, ⟨_, rfl, rfl⟩, rfl⟩, ⟨trivial, trivial⟩⟩
    · rename_i ht
      cases hs
      obtain ⟨s, rfl, rfl, hw⟩ := DataW.trod_string ht h
      exact ⟨(s, ()), ⟨[_], [], rfl, ⟨_, rfl, rfl⟩, rfl⟩, ⟨hw, trivial⟩⟩
    · rename_i n e ht
      split at hs
      · rename_i k hk
        split at hs
        · rename_i h1
          cases hs
          obtain ⟨xs, mm, rfl, rfl, hc, hl, hall⟩ := DataW.trod_array ht h
          have hcn : cs.length = n := hc.trans h1.2
          obtain ⟨l, q1, q2, q3, q4⟩ := sc_list hk n cs xs hcn hl fun i hi => by
            have := hall i hi
            rw [h1.1, Nat.mul_one] at this
            exact this
          exact ⟨(l, ()), ⟨cs, [], by simp, ⟨.inr q2, q1⟩, rfl⟩, ⟨⟨q2, q3⟩, trivial⟩⟩
        · cases hs
      · cases hs
    · rename_i fs ht
      split at hs
      · rename_i l n hl
        split at hs
        · rename_i hn
          cases hs
          obtain ⟨xs, mm, rfl, rfl, hc, hx, hall⟩ := DataW.trod_struct ht h
          have := slFs_open (m := m) (fun t sl cs x hs h => slOf_open hfz f t sl mm cs x hs h) fs.toList 0 _ _ cs xs hl (hc.trans hn.symm) (by simpa using hx) fun i f' hf => hall i f' (by simpa using hf)
          simpa using this
        · cases hs
      · cases hs
    · rename_i e ht
      split at hs
      · rename_i q hq
        split at hs
        · rename_i h1
          cases hs
          have hv : ∃ a0 n0 c0, cs = [.slice a0 n0 c0] := by
            rcases DataW.trod_slice ht h with ⟨h2, _⟩ | ⟨a, len, cap, elems, rest, n, _, h2, _⟩
            · exact ⟨_, _, _, h2⟩
            · exact ⟨_, _, _, h2⟩
          obtain ⟨a0, n0, c0, rfl⟩ := hv
          obtain ⟨l, g, hsh⟩ := slice_core (k := q.ek) ht (h1.trans (ek_w q).symm) (fun n cs x hx => let ⟨z, z1, z2, _⟩ := sc_open (sc_ek hq) hx; ⟨z, z1, z2⟩) h
          obtain ⟨h3, h4⟩ := shown_fz hsh
          obtain ⟨dd, rfl⟩ := toL_inv q l
          rw [toL_cvs] at h4
          rw [toL_length] at h3
          refine ⟨(⟨a0, c0, dd, .inr (hfz _ _ _ h4)⟩, ()), ⟨[_], [], rfl, ⟨_, rfl, ?_⟩, rfl⟩, ⟨⟨?_, wfS_toL hsh.wf⟩, trivial⟩⟩
          · rw [h3]; rfl
          · have := hsh.len; rw [toL_length] at this; exact this
        · cases hs
      · cases hs
    · cases hs
theorem arg_agg (hfz : ∀ a cap cs, FzW (Ctx.of w fun _ => False) a cap cs → FZ.ok a cap cs) {m : GM} {r : Reach} {b0 : Nat} {t : TypeId} {v : Value} {d : DataW H} {ps : List MemPlace} {sl : List SL} (hs : slOf P 8 t = some sl) (hag : isAggT P t = true) (hv : Value.okWide P w r b0 t v)
    (h : DataW.Trod enc P w 0 (fun _ => true) held t v d ps) : ∃ y : denL sl, TVRel m (.agg (encL sl y)) v ∧ wfL sl y := by
  obtain ⟨fuel, hf⟩ := h
  obtain ⟨y, h1, h2⟩ := slOf_open (m := m) hfz _ _ _ _ _ _ hs hf
  have : ∃ cs, v = .agg cs := by
    unfold isAggT at hag
    unfold Value.okWide at hv
    split at hag
    · rename_i fs ht
      rw [ht] at hv
      obtain ⟨cs, h, _⟩ := hv
      exact ⟨cs, h⟩
    · rename_i n e ht
      rw [ht] at hv
      obtain ⟨cs, h, _⟩ := hv
      exact ⟨cs, h⟩
    · cases hag
  obtain ⟨cs, rfl⟩ := this
  exact ⟨y, ⟨cs, rfl, h1⟩, h2⟩
theorem trodAll_below (hl : laidOutB P = true) {W W' : World} (hb : Below W.heap.size W W') : ∀ {ts : List TypeId} {vs : List Value} {ds : List (DataW H)} {ps : List MemPlace},
    (∀ t ∈ ts, P.readableRec t = true ∧ t < P.types.size) → DataW.TrodAll enc P W 0 (fun _ => true) true ts vs ds ps → (∀ x ∈ ps, x.block < W.heap.size) →
    DataW.TrodAll enc P W' 0 (fun b => decide (b < W.heap.size)) true ts vs ds ps
  | [], [], [], ps, _, h, _ => h
  | t :: ts, v :: vs, d :: ds, ps, hr, ⟨p, q, h1, h2, h3⟩, hlt => by
    subst h3
    exact ⟨p, q, Go.RowKit.Below.trod hl (hr t (by simp)).1 (hr t (by simp)).2 h1 hb (fun x hx => hlt x (by simp [hx])), trodAll_below hl hb (fun t ht => hr t (by simp [ht])) h2 (fun x hx => hlt x (by simp [hx])), rfl⟩
  | [], _ :: _, _, _, _, h, _ => h.elim
  | [], [], _ :: _, _, _, h, _ => h.elim
  | _ :: _, [], _, _, _, h, _ => h.elim
  | _ :: _, _ :: _, [], _, _, h, _ => h.elim
theorem Ext.below {w w' : World} (h : Ext w w') : Below w.heap.size w w' := ⟨h.str.1, h.str.2.1, h.str.2.2, h.size, fun k hk => h.block k hk⟩
theorem inv_nil (hfz : ∀ a cap cs, FZ.ok a cap cs → FzW (Ctx.of w fun _ => False) a cap cs) : Inv (Ctx.of w fun _ => False) [] [] w :=
  ⟨rfl, fun id ob g h => by simp [hget] at h, fun id ob g b h => by simp [hget] at h, fun i j oi oj gi gj b c _ h => by simp [hget] at h, Str.refl w, Nat.le_refl _, fun _ _ _ => rfl, hfz, fun x hx => by cases hx⟩
end
end
section
variable [FZ]
section
variable {P : Program} {H : Type} {enc : TypeId × Value → H} {w : World} {held : Bool}
theorem open_slice (hfz : ∀ a cap cs, FzW (Ctx.of w fun _ => False) a cap cs → FZ.ok a cap cs) {e t : TypeId} {sl : List SL} {k : EK} (conv : denL sl → k.den) (ht : P.underlying t = some (.slice e)) (hs : slOf P 8 e = some sl) (hc : P.cellsOf e = k.w) (hconv : ∀ y, k.of1 (encL sl y) = some (conv y))
    (hwf : ∀ y, wfL sl y → wfE k (conv y)) {r : Reach} {b0 : Nat} {v : Value} {d : DataW H} {ps : List MemPlace} (hv : Value.okWide P w r b0 t v) (h : DataW.Trod enc P w 0 (fun _ => true) held t v d ps) :
    ∃ (l : List k.den) (g : Gh), Shown w k l g v := by
  obtain ⟨a0, n0, c0, rfl⟩ := Go.WideShapes.okWide_slice ht hv
  obtain ⟨fuel, hf⟩ := h
  exact slice_core ht hc (fun n cs x hx => by
    obtain ⟨d', o1, o2⟩ := slOf_open (m := []) hfz 8 e sl n cs x hs hx
    exact ⟨conv d', of1_cells k (hconv d') o1, hwf d' o2⟩) hf
theorem inv_shown {m : GM} {h : Heap} (hfz : ∀ a cap cs, FZ.ok a cap cs → FzW (Ctx.of w fun _ => False) a cap cs) (hl : m.length = h.length) (hq : ∀ (i : Nat) ob g, hget h i = some ob → m[i]? = some g → ob.ro = true ∧ ObRel m g w ob ∧ ∀ b, g.addr = some b → b.1 < w.heap.size) :
    Inv (Ctx.of w fun _ => False) m h w :=
  ⟨hl, fun id ob g h1 h2 => (hq id ob g h1 h2).2.1, fun id ob g b h1 h2 h3 => by rw [(hq id ob g h1 h2).1]; exact ⟨fun h => h, (hq id ob g h1 h2).2.2 b h3, trivial⟩,
   fun i j oi oj gi gj b c _ h1 h2 h3 _ h5 h6 => (by rw [(hq i oi gi h1 h5).1] at h3; cases h3), Str.refl w, Nat.le_refl _, fun _ _ _ => rfl, hfz, fun x hx => by cases hx⟩
theorem inv_cons {m : GM} {h : Heap} {k : EK} {l : List k.den} {g : Gh} {v : Value} (hi : Inv (Ctx.of w fun _ => False) m h w) (hro : ∀ (i : Nat) ob, hget h i = some ob → ob.ro = true) (hs : Shown w k l g v) :
    Inv (Ctx.of w fun _ => False) (m ++ [g]) (h ++ [some ⟨true, [.seq k 0 l]⟩]) w ∧ (∀ (i : Nat) ob, hget (h ++ [some ⟨true, [.seq k 0 l]⟩]) i = some ob → ob.ro = true) ∧ LRel (m ++ [g]) (.full h.length) v := by
  have hro' : ∀ (i : Nat) ob, hget (h ++ [some ⟨true, [.seq k 0 l]⟩]) i = some ob → ob.ro = true := by
    intro i ob h1
    rcases hget_app h1 with ⟨_, h2⟩ | ⟨_, h2⟩
    · exact hro i ob h2
    · cases h2; rfl
  refine ⟨inv_shown hi.fz (by simp [hi.len]) fun i ob g' h1 h2 => ⟨hro' i ob h1, ?_⟩, hro', ?_⟩
  · rcases hget_app h1 with ⟨hlt, h3⟩ | ⟨rfl, h3⟩
    · have h4 := gm_app_old (by rw [hi.len]; exact hlt) h2
      obtain ⟨o1, cs, o2, o3⟩ := hi.obs i ob g' h3 h4
      exact ⟨⟨o1, cs, o2.mono (pre_append _ _), o3⟩, fun b hb => hi.block_lt h3 h4 hb⟩
    · cases h3
      have : (m ++ [g])[h.length]? = some g := by rw [← hi.len]; exact gm_app_new
      rw [this] at h2; cases h2
      exact ⟨hs.obj _, hs.blk⟩
  · exact hs.rel _ _ (by rw [← hi.len]; exact gm_app_new)
end
end
end Go.Proofs.YtlgopekjjkdkiaaGreatDoor.Ev
end
section
namespace Go.Proofs.YtlgopekjjkdkiaaGreatDoor.X
open Go Go.Proofs.YtlgopekjjkdkiaaGreatDoor.Ev Go.Proofs Go.Shelf Go.RowKit
set_option linter.unusedVariables false
section
def repRen : Go.Shelf.Ren := ⟨fun x => match x with | 105 => 145 | 212 => 135 | 99 => 185 | 165 => 186 | 166 => 187 | 170 => 188 | 169 => 189 | 263 => 182 | 264 => 183 | 206 => 212 | 240 => 213 | 241 => 214 | 276 => 224 | 277 => 225 | n => n, fun x => match x with | 9 => 9 | 3 => 3 | 4 => 4 | 20 => 20 | 0 => 0 | 46 => 188 | 109 => 189 | 5 => 5 | 72 => 234 | 76 => 237 | 51 => 158 | 146 => 224 | 53 => 33 | 148 => 226 | 70 => 232 | 37 => 137 | 75 => 236 | 127 => 255 | 164 => 268 | 80 => 94 | n => n, fun x => match x with  | n => n⟩
theorem repLays : Lays.n105 Tryz.prog repRen where
  mixed := by kernel_rfl
  f99 := Tryz.func185.trans (congrArg some (by kernel_rfl))
  f105 := Tryz.func145.trans (congrArg some (by kernel_rfl))
  f165 := Tryz.func186.trans (congrArg some (by kernel_rfl))
  f166 := Tryz.func187.trans (congrArg some (by kernel_rfl))
  f169 := Tryz.func189.trans (congrArg some (by kernel_rfl))
  f170 := Tryz.func188.trans (congrArg some (by kernel_rfl))
  f206 := Tryz.func212.trans (congrArg some (by kernel_rfl))
  f212 := Tryz.func135.trans (congrArg some (by kernel_rfl))
  f240 := Tryz.func213.trans (congrArg some (by kernel_rfl))
  f241 := Tryz.func214.trans (congrArg some (by kernel_rfl))
  f263 := Tryz.func182.trans (congrArg some (by kernel_rfl))
  f264 := Tryz.func183.trans (congrArg some (by kernel_rfl))
  f276 := Tryz.func224.trans (congrArg some (by kernel_rfl))
  f277 := Tryz.func225.trans (congrArg some (by kernel_rfl))
  t0 := Tryz.underlying0
  a0 := Tryz.isAgg0
  z0 := Tryz.sizeOf0
  v0 := Tryz.zeroValue0
  t3 := Tryz.underlying3
  a3 := Tryz.isAgg3
  z3 := Tryz.sizeOf3
  v3 := Tryz.zeroValue3
  t4 := Tryz.underlying4
  a4 := Tryz.isAgg4
  z4 := Tryz.sizeOf4
  v4 := Tryz.zeroValue4
  t5 := Tryz.underlying5
  a5 := Tryz.isAgg5
  z5 := Tryz.sizeOf5
  v5 := Tryz.zeroValue5
  t9 := Tryz.underlying9
  a9 := Tryz.isAgg9
  z9 := Tryz.sizeOf9
  v9 := Tryz.zeroValue9
  t20 := Tryz.underlying20
  a20 := Tryz.isAgg20
  z20 := Tryz.sizeOf20
  v20 := Tryz.zeroValue20
  t37 := Tryz.underlying137
  a37 := Tryz.isAgg137
  z37 := Tryz.sizeOf137
  v37 := Tryz.zeroValue137
  t46 := Tryz.underlying188
  a46 := Tryz.isAgg188
  z46 := Tryz.sizeOf188
  v46 := Tryz.zeroValue188
  t51 := Tryz.underlying158
  a51 := Tryz.isAgg158
  z51 := Tryz.sizeOf158
  v51 := Tryz.zeroValue158
  t53 := Tryz.underlying33
  a53 := Tryz.isAgg33
  z53 := Tryz.sizeOf33
  v53 := Tryz.zeroValue33
  t70 := Tryz.underlying232
  a70 := Tryz.isAgg232
  z70 := Tryz.sizeOf232
  v70 := Tryz.zeroValue232
  t72 := Tryz.underlying234
  a72 := Tryz.isAgg234
  z72 := Tryz.sizeOf234
  v72 := Tryz.zeroValue234
  t75 := Tryz.underlying236
  a75 := Tryz.isAgg236
  z75 := Tryz.sizeOf236
  v75 := Tryz.zeroValue236
  t76 := Tryz.underlying237
  a76 := Tryz.isAgg237
  z76 := Tryz.sizeOf237
  v76 := Tryz.zeroValue237
  t109 := Tryz.underlying189
  a109 := Tryz.isAgg189
  z109 := Tryz.sizeOf189
  v109 := Tryz.zeroValue189
  t127 := Tryz.underlying255
  a127 := Tryz.isAgg255
  z127 := Tryz.sizeOf255
  v127 := Tryz.zeroValue255
  t146 := Tryz.underlying224
  a146 := Tryz.isAgg224
  z146 := Tryz.sizeOf224
  v146 := Tryz.zeroValue224
  t148 := Tryz.underlying226
  a148 := Tryz.isAgg226
  z148 := Tryz.sizeOf226
  v148 := Tryz.zeroValue226
  t164 := Tryz.underlying268
  a164 := Tryz.isAgg268
  z164 := Tryz.sizeOf268
  v164 := Tryz.zeroValue268
theorem repExtra : Builder.Extra Tryz.prog repRen where
  sizeBuilder := by kernel_rfl
  liesBuilder := by kernel_rfl
  t5 := repLays.t5
  a5 := repLays.a5
  z5 := repLays.z5
  v5 := repLays.v5
  infoByte := by kernel_rfl
  cellsByte := by kernel_rfl
  sizeByte := by kernel_rfl
  neB5 := by decide
end
end Go.Proofs.YtlgopekjjkdkiaaGreatDoor.X
end
section
namespace Go.Proofs.YtlgopekjjkdkiaaGreatDoor.X
open Go Go.Proofs.YtlgopekjjkdkiaaGreatDoor.Ev Go.Proofs
set_option linter.unusedVariables false
set_option linter.unusedSimpArgs false
set_option linter.unusedSectionVars false
section
variable [FZ]
noncomputable def rep (s : ByteArray) (n : Nat) : ByteArray := ⟨(Lib.repeatL s.data.toList n).toArray⟩
noncomputable def f145_1 {β : Type} (F : Nat) (a1 : ByteArray) (a2 : Int) (K0 : ByteArray → Option β) : Option β :=
  cond (decide (0 ≤ a2 ∧ a2 ≤ 9223372036854775807 ∧ a1.size * a2.toNat ≤ 140737488355328)) (K0 (rep a1 a2.toNat)) none
def sh145_1 : Sh := ⟨[.lf (.str), .lf (.int .i64)], []⟩
noncomputable def S145_1 (F : Nat) (o : Summ) : Summ := mkS sh145_1 (fun d K => f145_1 F d.1.1 d.1.2.1 (fun (y0 : ByteArray) => K [.lf (.str y0)] [])) o
theorem enter145 : ∀ args w, (callFunc 145 args).run Tryz.prog w = .ok (.enter 145 args) w := enter_of (fn := Tryz.f145) (by kernel_rfl) (by kernel_rfl) (by kernel_rfl)
theorem repNum : repRen.f 105 = 145 := by kernel_rfl
theorem repB {s : ByteArray} {c : Int} (h : 0 ≤ c ∧ c ≤ 9223372036854775807 ∧ s.size * c.toNat ≤ 140737488355328) {K : KF} {r : Res} (he : K [.lf (.str (rep s c.toNat))] [] = some r) :
    Contract Tryz.prog 145 [.lf (.str s), .lf (.int .i64 c)] [] K r := by
  intro G m w cvs hw hgd hgh hi hx
  obtain ⟨v1, v2, rfl, h1, h2⟩ : ∃ v1 v2, cvs = [v1, v2] ∧ v1 = .string s ∧ v2 = .int .i64 c := by
    match cvs, hx with
    | [v1, v2], ⟨h1, h2, _⟩ => exact ⟨v1, v2, rfl, h1, h2⟩
  subst h1 h2
  have := Any.strings_Repeat repLays repExtra s c.toNat w (by omega) h.2.2
  rw [repNum, show ((c.toNat : Nat) : Int) = c by omega] at this
  refine this.mono fun e w' ⟨h1, h2⟩ => ?_
  have hext : Ext w w' := ⟨⟨h2.os, h2.tape, h2.output⟩, h2.size, h2.block⟩
  exact ⟨_, _, he, _, [], h1, rfl, by rw [List.append_nil]; exact hi.ext hext⟩
theorem S145_1_ok (F : Nat) (o : Summ) (ho : SoundFn Tryz.prog 145 o) : SoundFn Tryz.prog 145 (S145_1 F o) := by
  refine ⟨ho.enter, fun vs h K r he => ?_⟩
  unfold S145_1 mkS at he
  split at he
  rotate_left
  · exact ho.ok vs h K r he
  rename_i dv dh ha hb'
  have e1 := decT_enc _ _ _ ha
  have e2 := decH_enc _ _ _ hb'
  obtain ⟨s, c, _⟩ := dv
  have e1 : vs = [.lf (.str s), .lf (.int .i64 c)] := e1
  have e2 : h = [] := e2
  subst e1
  subst e2
  have he : f145_1 F s c (fun (y0 : ByteArray) => K [.lf (.str y0)] []) = some r := he
  unfold f145_1 at he
  obtain ⟨h1, he⟩ := dec_of he
  exact repB h1 he
end
end Go.Proofs.YtlgopekjjkdkiaaGreatDoor.X
end
section
namespace Go.Proofs.YtlgopekjjkdkiaaGreatDoor.X
open Go Go.Proofs.YtlgopekjjkdkiaaGreatDoor.Ev Go.Proofs
set_option linter.unusedVariables false
set_option linter.unusedSectionVars false
section
noncomputable def f136_1 {β : Type} (F : Nat) (a1 : Int) (K0 : ByteArray → Option β) : Option β := f145_1 F (ofInts [a1]) 64 (fun x1 => K0 x1) 
variable [FZ]
def sh136_1 : Sh := ⟨[.lf (.int .u8)], []⟩
abbrev Y136_1 := Int → (ByteArray → Option Res) → Option Res
noncomputable def A136_1 (g : Y136_1) (d : sh136_1.den) (K : KF) : Option Res := g d.1.1 (fun y0 => K [.lf (.str y0)] [])
noncomputable def S136_1 (F : Nat) (o : Summ) : Summ := mkS sh136_1 (fun d K => A136_1 (f136_1 F) d K) o
noncomputable def code136 : Code := bodyOf Tryz.f136
theorem enter136 : En Tryz.prog 136 := enO (fn := Tryz.f136)
noncomputable def T136_1 (F : Nat) : FuncId → Option Summ := tab [(145, (S145_1 F noS))]
noncomputable def LT136_1 (F : Nat) : Nat → Option LoopS := ltab []
theorem E136_1 (F : Nat) (d : sh136_1.den) (K : KF) : EB Tryz.prog (T136_1 F) (xw []) 7 0 (LT136_1 F) [] false Tryz.f136 sh136_1 d K = A136_1 (f136_1 F) d K := by delta A136_1 f136_1 T136_1 S145_1 LT136_1;  generalize (f145_1 F : ByteArray → Int → (ByteArray → Option Res) → Option Res) = c; as_aux_lemma => kernel_rfl
theorem S136_1_ok : So Tryz.prog 136 S136_1 :=
  fun F o ho => sOf (fn := Tryz.f136) (c := code136) (tab_cons (S145_1_ok F _ (noS_sound enter145)) tab_nil) ho lnil snil rnil (E136_1 F)
end
section
noncomputable def f69_1 {β : Type} (F : Nat)  (K0 : ByteArray → Option β) : Option β := f136_1 F 0 (fun x1 => K0 x1) 
variable [FZ]
def sh69_1 : Sh := ⟨[], []⟩
abbrev Y69_1 := (ByteArray → Option Res) → Option Res
noncomputable def A69_1 (g : Y69_1) (d : sh69_1.den) (K : KF) : Option Res := g (fun y0 => K [.lf (.str y0)] [])
noncomputable def S69_1 (F : Nat) (o : Summ) : Summ := mkS sh69_1 (fun d K => A69_1 (f69_1 F) d K) o
noncomputable def code69 : Code := bodyOf Tryz.f69
theorem enter69 : En Tryz.prog 69 := enO (fn := Tryz.f69)
noncomputable def T69_1 (F : Nat) : FuncId → Option Summ := tab [(136, (S136_1 F noS))]
noncomputable def LT69_1 (F : Nat) : Nat → Option LoopS := ltab []
theorem E69_1 (F : Nat) (d : sh69_1.den) (K : KF) : EB Tryz.prog (T69_1 F) (xw []) 2 0 (LT69_1 F) [] false Tryz.f69 sh69_1 d K = A69_1 (f69_1 F) d K := by delta A69_1 f69_1 T69_1 S136_1 LT69_1;  generalize (f136_1 F : Y136_1) = c; as_aux_lemma => kernel_rfl
theorem S69_1_ok : So Tryz.prog 69 S69_1 :=
  fun F o ho => sOf (fn := Tryz.f69) (c := code69) (tab_cons (S136_1_ok F _ (noS_sound enter136)) tab_nil) ho lnil snil rnil (E69_1 F)
end
section
noncomputable def f12_1 {β : Type} (F : Nat) (a1 : Int) (K0 : Option β) (K1 : List ByteArray → List (Int × ByteArray) → Option β) : Option β := cond (decide (a1 < 1)) (K0) (cond (decide (a1 > 1200)) (K0) (f69_1 F  (fun x1 => f68_1 F a1 [x1] (fun x2 => K1 x2 []) ) ))
variable [FZ]
def sh12_1 : Sh := ⟨[.lf (.int .i64)], []⟩
abbrev Y12_1 := Int → (Option Res) → (List ByteArray → List (Int × ByteArray) → Option Res) → Option Res
noncomputable def A12_1 (g : Y12_1) (d : sh12_1.den) (K : KF) : Option Res := g d.1.1 (K [.lf (.nilp), .lf (.int .i64 2)] []) (fun y4 y5 => K [.lf (.ptr 0 0), .lf (.int .i64 0)] [some ⟨false, [.full 1, .full 2, .int .i64 (-1), .bool false, .int .i64 0]⟩, some ⟨false, [.seq .str 0 y4]⟩, some ⟨false, [.seq (.pair (.int .i64) .str) 0 y5]⟩])
noncomputable def S12_1 (F : Nat) (o : Summ) : Summ := mkS sh12_1 (fun d K => A12_1 (f12_1 F) d K) o
noncomputable def code12 : Code := bodyOf Tryz.f12
theorem enter12 : En Tryz.prog 12 := enO (fn := Tryz.f12)
noncomputable def T12_1 (F : Nat) : FuncId → Option Summ := tab [(68, (S68_1 F noS)), (69, (S69_1 F noS))]
noncomputable def LT12_1 (F : Nat) : Nat → Option LoopS := ltab []
theorem E12_1 (F : Nat) (d : sh12_1.den) (K : KF) : EB Tryz.prog (T12_1 F) (xw []) 16 0 (LT12_1 F) [] false Tryz.f12 sh12_1 d K = A12_1 (f12_1 F) d K := by delta A12_1 f12_1 T12_1 S68_1 S69_1 LT12_1;  generalize (f68_1 F : Y68_1) = c, (f69_1 F : Y69_1) = c; as_aux_lemma => kernel_rfl
theorem S12_1_ok : So Tryz.prog 12 S12_1 :=
  fun F o ho => sOf (fn := Tryz.f12) (c := code12) (tab_cons (S68_1_ok F _ (noS_sound enter68)) (tab_cons (S69_1_ok F _ (noS_sound enter69)) tab_nil)) ho lnil snil rnil (E12_1 F)
end
section
noncomputable def f21_1 {β : Type} (F : Nat) (a1 a2 a3 a4 : Int) (K0 : Bool → Option β) : Option β := cond (decide (a1 ≥ 1)) (cond (decide (a1 ≤ 128)) (cond (decide (a2 ≥ 2)) (cond (decide (a2 ≤ 4)) (cond (decide (a3 ≥ 0)) (cond (decide (a3 ≤ 64)) (cond (decide (a4 ≥ 1)) (K0 (decide (a4 ≤ 320))) (K0 false)) (K0 false)) (K0 false)) (K0 false)) (K0 false)) (K0 false)) (K0 false)
variable [FZ]
def sh21_1 : Sh := ⟨[.agg [.int .i64, .int .i64, .int .i64, .int .i64]], []⟩
abbrev Y21_1 := Int → Int → Int → Int → (Bool → Option Res) → Option Res
noncomputable def A21_1 (g : Y21_1) (d : sh21_1.den) (K : KF) : Option Res := g d.1.1.1 d.1.1.2.1 d.1.1.2.2.1 d.1.1.2.2.2.1 (fun y0 => K [.lf (.bool y0)] [])
noncomputable def S21_1 (F : Nat) (o : Summ) : Summ := mkS sh21_1 (fun d K => A21_1 (f21_1 F) d K) o
noncomputable def code21 : Code := bodyOf Tryz.f21
theorem enter21 : En Tryz.prog 21 := enO (fn := Tryz.f21)
noncomputable def T21_1 (F : Nat) : FuncId → Option Summ := tab []
noncomputable def LT21_1 (F : Nat) : Nat → Option LoopS := ltab []
theorem E21_1 (F : Nat) (d : sh21_1.den) (K : KF) : EB Tryz.prog (T21_1 F) (xw []) 41 0 (LT21_1 F) [] false Tryz.f21 sh21_1 d K = A21_1 (f21_1 F) d K := by delta A21_1 f21_1 T21_1 LT21_1;   as_aux_lemma => kernel_rfl
theorem S21_1_ok : So Tryz.prog 21 S21_1 :=
  fun F o ho => sOf (fn := Tryz.f21) (c := code21) tab_nil ho lnil snil rnil (E21_1 F)
end
section
noncomputable def f98_1_l5 {β : Type} (F : Nat) (v3 v4 v5 v6 : Int) (K0 : List Int → Option β) : Nat → Int → List Int → Option β
  | 0, _, _ => none
  | k + 1, v2, v7 => cond (decide (v2 > 1)) (cond (decide (v4 = 0)) none (cond (decide ((v7.length + 1) * 8 ≤ 70368744177664)) (f98_1_l5 F v3 v4 v5 v6 K0 k (IntKind.i64.wrap ((IntKind.i64.wrap ((IntKind.i64.wrap (v2 + v4)) - 1)).tdiv v4)) (v7 ++ [IntKind.i64.wrap ((IntKind.i64.wrap ((IntKind.i64.wrap (v2 + v4)) - 1)).tdiv v4)])) none)) (K0 v7)
noncomputable def f98_1 {β : Type} (F : Nat) (a1 a2 a3 a4 : Int) (K0 : List Int → Option β) : Option β := f21_1 F a1 a2 a3 a4 (fun x1 => cond (!x1) (K0 []) (f98_1_l5 F a1 a2 a3 a4 (fun x8 => K0 x8) F a1 [a1])) 
variable [FZ]
def sh98_1 : Sh := ⟨[.agg [.int .i64, .int .i64, .int .i64, .int .i64]], []⟩
abbrev Y98_1 := Int → Int → Int → Int → (List Int → Option Res) → Option Res
noncomputable def A98_1 (g : Y98_1) (d : sh98_1.den) (K : KF) : Option Res := g d.1.1.1 d.1.1.2.1 d.1.1.2.2.1 d.1.1.2.2.2.1 (fun y0 => K [.lf (.full 0)] [some ⟨false, [.seq (.int .i64) 0 y0]⟩])
noncomputable def S98_1 (F : Nat) (o : Summ) : Summ := mkS sh98_1 (fun d K => A98_1 (f98_1 F) d K) o
noncomputable def code98 : Code := bodyOf Tryz.f98
noncomputable def b98_0 : Code := cB (cB (cR (cL (cR (cR (cR (code98)))))))
theorem loops98 : loopsOf code98 = [b98_0] := by kernel_rfl
theorem enter98 : En Tryz.prog 98 := enO (fn := Tryz.f98)
noncomputable def T98_1 (F : Nat) : FuncId → Option Summ := tab [(21, (S21_1 F noS))]
def sh98_1_l5 : Sh := ⟨[.lf (.ptr 0 0), .lf (.full 1), .lf (.int .i64)], [some ⟨some false, [.int .i64, .int .i64, .int .i64, .int .i64]⟩, some ⟨some false, [.seq (.int .i64) 0]⟩]⟩
abbrev Y98_1_l5 := Int → Int → Int → Int → (List Int → Option Res) → Nat → Int → List Int → Option Res
noncomputable def A98_1_l5 (g : Y98_1_l5) (k : Nat) (d : sh98_1_l5.den) (K : KL) : Option Res := g d.2.1.2.1 d.2.1.2.2.1 d.2.1.2.2.2.1 d.2.1.2.2.2.2.1 (fun y4 => K (.exit 0) [.tv (.lf (.full 1))] [some ⟨false, [.int .i64 d.2.1.2.1, .int .i64 d.2.1.2.2.1, .int .i64 d.2.1.2.2.2.1, .int .i64 d.2.1.2.2.2.2.1]⟩, some ⟨false, [.seq (.int .i64) 0 y4]⟩]) k d.1.2.2.1 d.2.2.1.2.1
noncomputable def G98_1_5 (F k : Nat) : LoopS := mkG sh98_1_l5 [1, 3, 4] (outT [(.exit 0, [3])]) (fun d K => A98_1_l5 (f98_1_l5 F) k d K) []
noncomputable def LT98_1 (F : Nat) : Nat → Option LoopS := ltab [(5, G98_1_5 F F)]
theorem L98_1_5 (F : Nat) : LoopOK Tryz.prog (T98_1 F) (xw []) 28 0 (LT98_1 F) (G98_1_5 F F) b98_0 :=
  loopOK_of (s := sh98_1_l5) (live := [1, 3, 4]) (out := (outT [(.exit 0, [3])])) (mv := []) (fun k d K => A98_1_l5 (f98_1_l5 F) k d K) F (fun d K => by kernel_rfl)  (fun k d K => by delta A98_1_l5; refine (f98_1_l5.eq_2 ..).trans ?_; delta T98_1 S21_1 LT98_1; generalize (G98_1_5 F F) = c;  (try delta G98_1_5); generalize (f21_1 F : Y21_1) = c, (f98_1_l5 F : Y98_1_l5) = c; as_aux_lemma => kernel_rfl)
theorem E98_1 (F : Nat) (d : sh98_1.den) (K : KF) : EB Tryz.prog (T98_1 F) (xw []) 28 0 (LT98_1 F) [] false Tryz.f98 sh98_1 d K = A98_1 (f98_1 F) d K := by delta A98_1 f98_1 T98_1 S21_1 LT98_1;  delta G98_1_5; generalize (f21_1 F : Y21_1) = c, (f98_1_l5 F : Y98_1_l5) = c; as_aux_lemma => kernel_rfl
theorem S98_1_ok : So Tryz.prog 98 S98_1 :=
  fun F o ho => sOf (fn := Tryz.f98) (c := code98) (tab_cons (S21_1_ok F _ (noS_sound enter21)) tab_nil) ho (by rw [loops98]; exact (loopsOK_cons (by kernel_rfl) (L98_1_5 F) loopsOK_nil)) snil rnil (E98_1 F)
end
section
noncomputable def f36_1_l4 {β : Type} (F : Nat) (v4 : List Int) (K0 : Int → Option β) : Nat → Int → Int → Option β
  | 0, _, _ => none
  | k + 1, v2, v3 => cond (decide (v3 < ((v4.length : Nat) : Int))) (cond (decide ((0 : Int) ≤ v3 ∧ v3 < ((v4.length : Nat) : Int))) (cond (decide (0 + v3.toNat < v4.length)) (f36_1_l4 F v4 K0 k (IntKind.i64.wrap (v2 + (v4.getD (0 + v3.toNat) 0))) (IntKind.i64.wrap (v3 + 1))) none) none) (K0 v2)
noncomputable def f36_1 {β : Type} (F : Nat) (a1 a2 a3 a4 : Int) (K0 : Int → Option β) : Option β := f98_1 F a1 a2 a3 a4 (fun x1 => f36_1_l4 F x1 (fun x5 => K0 x5) F 0 0) 
variable [FZ]
def sh36_1 : Sh := ⟨[.agg [.int .i64, .int .i64, .int .i64, .int .i64]], []⟩
abbrev Y36_1 := Int → Int → Int → Int → (Int → Option Res) → Option Res
noncomputable def A36_1 (g : Y36_1) (d : sh36_1.den) (K : KF) : Option Res := g d.1.1.1 d.1.1.2.1 d.1.1.2.2.1 d.1.1.2.2.2.1 (fun y0 => K [.lf (.int .i64 y0)] [])
noncomputable def S36_1 (F : Nat) (o : Summ) : Summ := mkS sh36_1 (fun d K => A36_1 (f36_1 F) d K) o
noncomputable def code36 : Code := bodyOf Tryz.f36
noncomputable def b36_0 : Code := cB (cB (cR (cL (cR (cR (cR (code36)))))))
theorem loops36 : loopsOf code36 = [b36_0] := by kernel_rfl
theorem enter36 : En Tryz.prog 36 := enO (fn := Tryz.f36)
noncomputable def T36_1 (F : Nat) : FuncId → Option Summ := tab [(98, (S98_1 F noS))]
def sh36_1_l4 : Sh := ⟨[.lf (.int .i64), .lf (.full 0), .lf (.int .i64)], [some ⟨some false, [.seq (.int .i64) 0]⟩]⟩
abbrev Y36_1_l4 := List Int → (Int → Option Res) → Nat → Int → Int → Option Res
noncomputable def A36_1_l4 (g : Y36_1_l4) (k : Nat) (d : sh36_1_l4.den) (K : KL) : Option Res := g d.2.1.2.1 (fun y0 => K (.exit 0) [.tv (.lf (.int .i64 y0))] [some ⟨false, [.seq (.int .i64) 0 d.2.1.2.1]⟩]) k d.1.1 d.1.2.2.1
noncomputable def G36_1_4 (F k : Nat) : LoopS := mkG sh36_1_l4 [3, 4, 5] (outT [(.exit 0, [3])]) (fun d K => A36_1_l4 (f36_1_l4 F) k d K) []
noncomputable def LT36_1 (F : Nat) : Nat → Option LoopS := ltab [(4, G36_1_4 F F)]
theorem L36_1_4 (F : Nat) : LoopOK Tryz.prog (T36_1 F) (xw []) 21 0 (LT36_1 F) (G36_1_4 F F) b36_0 :=
  loopOK_of (s := sh36_1_l4) (live := [3, 4, 5]) (out := (outT [(.exit 0, [3])])) (mv := []) (fun k d K => A36_1_l4 (f36_1_l4 F) k d K) F (fun d K => by kernel_rfl)  (fun k d K => by delta A36_1_l4; refine (f36_1_l4.eq_2 ..).trans ?_; delta T36_1 S98_1 LT36_1; generalize (G36_1_4 F F) = c;  (try delta G36_1_4); generalize (f98_1 F : Y98_1) = c, (f36_1_l4 F : Y36_1_l4) = c; as_aux_lemma => kernel_rfl)
theorem E36_1 (F : Nat) (d : sh36_1.den) (K : KF) : EB Tryz.prog (T36_1 F) (xw []) 21 0 (LT36_1 F) [] false Tryz.f36 sh36_1 d K = A36_1 (f36_1 F) d K := by delta A36_1 f36_1 T36_1 S98_1 LT36_1;  delta G36_1_4; generalize (f98_1 F : Y98_1) = c, (f36_1_l4 F : Y36_1_l4) = c; as_aux_lemma => kernel_rfl
theorem S36_1_ok : So Tryz.prog 36 S36_1 :=
  fun F o ho => sOf (fn := Tryz.f36) (c := code36) (tab_cons (S98_1_ok F _ (noS_sound enter98)) tab_nil) ho (by rw [loops36]; exact (loopsOK_cons (by kernel_rfl) (L36_1_4 F) loopsOK_nil)) snil rnil (E36_1 F)
end
section
noncomputable def f84_1 {β : Type} (F : Nat) (a1 a2 a3 a4 a5 : Int) (K0 : Int → Option β) : Option β := cond (a5 == 0) (K0 (IntKind.i64.wrap (2 * a3))) (cond (a5 == 1) (K0 (IntKind.i64.wrap (2 * a4))) (K0 (-1)))
variable [FZ]
def sh84_1 : Sh := ⟨[.agg [.int .i64, .int .i64, .int .i64, .int .i64], .lf (.int .i64)], []⟩
abbrev Y84_1 := Int → Int → Int → Int → Int → (Int → Option Res) → Option Res
noncomputable def A84_1 (g : Y84_1) (d : sh84_1.den) (K : KF) : Option Res := g d.1.1.1 d.1.1.2.1 d.1.1.2.2.1 d.1.1.2.2.2.1 d.1.2.1 (fun y0 => K [.lf (.int .i64 y0)] [])
noncomputable def S84_1 (F : Nat) (o : Summ) : Summ := mkS sh84_1 (fun d K => A84_1 (f84_1 F) d K) o
noncomputable def code84 : Code := bodyOf Tryz.f84
theorem enter84 : En Tryz.prog 84 := enO (fn := Tryz.f84)
noncomputable def T84_1 (F : Nat) : FuncId → Option Summ := tab []
noncomputable def LT84_1 (F : Nat) : Nat → Option LoopS := ltab []
theorem E84_1 (F : Nat) (d : sh84_1.den) (K : KF) : EB Tryz.prog (T84_1 F) (xw []) 15 0 (LT84_1 F) [] false Tryz.f84 sh84_1 d K = A84_1 (f84_1 F) d K := by delta A84_1 f84_1 T84_1 LT84_1;   as_aux_lemma => kernel_rfl
theorem S84_1_ok : So Tryz.prog 84 S84_1 :=
  fun F o ho => sOf (fn := Tryz.f84) (c := code84) tab_nil ho lnil snil rnil (E84_1 F)
end
section
noncomputable def f23_1 {β : Type} (F : Nat) (a1 a2 a3 a4 a5 : Int) (K0 : Int → Option β) : Option β := f84_1 F a1 a2 a3 a4 a5 (fun x1 => f21_1 F a1 a2 a3 a4 (fun x2 => cond (!x2) (K0 0) (cond (decide (x1 < 0)) (K0 0) (f36_1 F a1 a2 a3 a4 (fun x3 => K0 (IntKind.i64.wrap ((IntKind.i64.wrap ((IntKind.i64.wrap (6 + a1)) + x3)) + x1))) ))) ) 
variable [FZ]
def sh23_1 : Sh := ⟨[.agg [.int .i64, .int .i64, .int .i64, .int .i64], .lf (.int .i64)], []⟩
abbrev Y23_1 := Int → Int → Int → Int → Int → (Int → Option Res) → Option Res
noncomputable def A23_1 (g : Y23_1) (d : sh23_1.den) (K : KF) : Option Res := g d.1.1.1 d.1.1.2.1 d.1.1.2.2.1 d.1.1.2.2.2.1 d.1.2.1 (fun y0 => K [.lf (.int .i64 y0)] [])
noncomputable def S23_1 (F : Nat) (o : Summ) : Summ := mkS sh23_1 (fun d K => A23_1 (f23_1 F) d K) o
noncomputable def code23 : Code := bodyOf Tryz.f23
theorem enter23 : En Tryz.prog 23 := enO (fn := Tryz.f23)
noncomputable def T23_1 (F : Nat) : FuncId → Option Summ := tab [(21, (S21_1 F noS)), (36, (S36_1 F noS)), (84, (S84_1 F noS))]
noncomputable def LT23_1 (F : Nat) : Nat → Option LoopS := ltab []
theorem E23_1 (F : Nat) (d : sh23_1.den) (K : KF) : EB Tryz.prog (T23_1 F) (xw []) 24 0 (LT23_1 F) [] false Tryz.f23 sh23_1 d K = A23_1 (f23_1 F) d K := by delta A23_1 f23_1 T23_1 S21_1 S36_1 S84_1 LT23_1;  generalize (f21_1 F : Y21_1) = c, (f36_1 F : Y36_1) = c, (f84_1 F : Y84_1) = c; as_aux_lemma => kernel_rfl
theorem S23_1_ok : So Tryz.prog 23 S23_1 :=
  fun F o ho => sOf (fn := Tryz.f23) (c := code23) (tab_cons (S21_1_ok F _ (noS_sound enter21)) (tab_cons (S36_1_ok F _ (noS_sound enter36)) (tab_cons (S84_1_ok F _ (noS_sound enter84)) tab_nil))) ho lnil snil rnil (E23_1 F)
end
section
noncomputable def f77_1 {β : Type} (F : Nat) (a1 a2 : Int) (a3 : Bool) (a4 : Int) (a5 : List ByteArray) (a6 : List (Int × ByteArray)) (K0 : Bool → Option β) : Option β := cond (decide (a1 ≥ 0)) (K0 (decide (a1 < ((a5.length : Nat) : Int)))) (K0 false)
variable [FZ]
def sh77_1 : Sh := ⟨[.lf (.ptr 0 0), .lf (.int .i64)], [some ⟨none, [.full 1, .full 2, .int .i64, .bool, .int .i64]⟩, some ⟨none, [.seq .str 0]⟩, some ⟨none, [.seq (.pair (.int .i64) .str) 0]⟩]⟩
abbrev Y77_1 := Int → Int → Bool → Int → List ByteArray → List (Int × ByteArray) → (Bool → Option Res) → Option Res
noncomputable def A77_1 (g : Y77_1) (d : sh77_1.den) (K : KF) : Option Res := g d.1.2.1 d.2.1.2.2.2.1 d.2.1.2.2.2.2.1 d.2.1.2.2.2.2.2.1 d.2.2.1.2.1 d.2.2.2.1.2.1 (fun y0 => K [.lf (.bool y0)] [some ⟨d.2.1.1, [.full 1, .full 2, .int .i64 d.2.1.2.2.2.1, .bool d.2.1.2.2.2.2.1, .int .i64 d.2.1.2.2.2.2.2.1]⟩, some ⟨d.2.2.1.1, [.seq .str 0 d.2.2.1.2.1]⟩, some ⟨d.2.2.2.1.1, [.seq (.pair (.int .i64) .str) 0 d.2.2.2.1.2.1]⟩])
noncomputable def S77_1 (F : Nat) (o : Summ) : Summ := mkS sh77_1 (fun d K => A77_1 (f77_1 F) d K) o
noncomputable def code77 : Code := bodyOf Tryz.f77
theorem enter77 : En Tryz.prog 77 := enO (fn := Tryz.f77)
noncomputable def T77_1 (F : Nat) : FuncId → Option Summ := tab []
noncomputable def LT77_1 (F : Nat) : Nat → Option LoopS := ltab []
theorem E77_1 (F : Nat) (d : sh77_1.den) (K : KF) : EB Tryz.prog (T77_1 F) (xw []) 16 3 (LT77_1 F) [] false Tryz.f77 sh77_1 d K = A77_1 (f77_1 F) d K := by delta A77_1 f77_1 T77_1 LT77_1;   as_aux_lemma => kernel_rfl
theorem S77_1_ok : So Tryz.prog 77 S77_1 :=
  fun F o ho => sOf (fn := Tryz.f77) (c := code77) tab_nil ho lnil snil rnil (E77_1 F)
end
section
noncomputable def f85_1 {β : Type} (F : Nat) (a1 : ByteArray) (K0 : Bool → Option β) : Option β := K0 ((a1.size : Int) == 64)
variable [FZ]
def sh85_1 : Sh := ⟨[.lf (.str)], []⟩
abbrev Y85_1 := ByteArray → (Bool → Option Res) → Option Res
noncomputable def A85_1 (g : Y85_1) (d : sh85_1.den) (K : KF) : Option Res := g d.1.1 (fun y0 => K [.lf (.bool y0)] [])
noncomputable def S85_1 (F : Nat) (o : Summ) : Summ := mkS sh85_1 (fun d K => A85_1 (f85_1 F) d K) o
noncomputable def code85 : Code := bodyOf Tryz.f85
theorem enter85 : En Tryz.prog 85 := enO (fn := Tryz.f85)
noncomputable def T85_1 (F : Nat) : FuncId → Option Summ := tab []
noncomputable def LT85_1 (F : Nat) : Nat → Option LoopS := ltab []
theorem E85_1 (F : Nat) (d : sh85_1.den) (K : KF) : EB Tryz.prog (T85_1 F) (xw []) 6 0 (LT85_1 F) [] false Tryz.f85 sh85_1 d K = A85_1 (f85_1 F) d K := by delta A85_1 f85_1 T85_1 LT85_1;   as_aux_lemma => kernel_rfl
theorem S85_1_ok : So Tryz.prog 85 S85_1 :=
  fun F o ho => sOf (fn := Tryz.f85) (c := code85) tab_nil ho lnil snil rnil (E85_1 F)
end
section
noncomputable def f86_1 {β : Type} (F : Nat) (a1 : Int) (a2 : Bool) (a3 : Int) (a4 : List ByteArray) (a5 : List (Int × ByteArray)) (K0 : Bool → Int → Bool → Int → Option β) : Option β := cond (a1 == 0) (K0 false (-1) true a3) (cond (a1 == (-1)) (K0 true a1 a2 (IntKind.i64.wrap (a3 + 1))) (K0 true (IntKind.i64.wrap (a1 - 1)) a2 (IntKind.i64.wrap (a3 + 1))))
variable [FZ]
def sh86_1 : Sh := ⟨[.lf (.ptr 0 0)], [some ⟨some false, [.full 1, .full 2, .int .i64, .bool, .int .i64]⟩, some ⟨none, [.seq .str 0]⟩, some ⟨none, [.seq (.pair (.int .i64) .str) 0]⟩]⟩
abbrev Y86_1 := Int → Bool → Int → List ByteArray → List (Int × ByteArray) → (Bool → Int → Bool → Int → Option Res) → Option Res
noncomputable def A86_1 (g : Y86_1) (d : sh86_1.den) (K : KF) : Option Res := g d.2.1.2.2.2.1 d.2.1.2.2.2.2.1 d.2.1.2.2.2.2.2.1 d.2.2.1.2.1 d.2.2.2.1.2.1 (fun y0 y1 y2 y3 => K [.lf (.bool y0)] [some ⟨false, [.full 1, .full 2, .int .i64 y1, .bool y2, .int .i64 y3]⟩, some ⟨d.2.2.1.1, [.seq .str 0 d.2.2.1.2.1]⟩, some ⟨d.2.2.2.1.1, [.seq (.pair (.int .i64) .str) 0 d.2.2.2.1.2.1]⟩])
noncomputable def S86_1 (F : Nat) (o : Summ) : Summ := mkS sh86_1 (fun d K => A86_1 (f86_1 F) d K) o
noncomputable def code86 : Code := bodyOf Tryz.f86
theorem enter86 : En Tryz.prog 86 := enO (fn := Tryz.f86)
noncomputable def T86_1 (F : Nat) : FuncId → Option Summ := tab []
noncomputable def LT86_1 (F : Nat) : Nat → Option LoopS := ltab []
theorem E86_1 (F : Nat) (d : sh86_1.den) (K : KF) : EB Tryz.prog (T86_1 F) (xw []) 31 3 (LT86_1 F) [] false Tryz.f86 sh86_1 d K = A86_1 (f86_1 F) d K := by delta A86_1 f86_1 T86_1 LT86_1;   as_aux_lemma => kernel_rfl
theorem S86_1_ok : So Tryz.prog 86 S86_1 :=
  fun F o ho => sOf (fn := Tryz.f86) (c := code86) tab_nil ho lnil snil rnil (E86_1 F)
end
section
noncomputable def f24_1 {β : Type} (F : Nat) (a1 : Int) (a2 : ByteArray) (a3 : Int) (a4 : Bool) (a5 : Int) (a6 : List ByteArray) (a7 : List (Int × ByteArray)) (K0 : Int → Int → Bool → Int → List (Int × ByteArray) → Option β) : Option β := cond a4 (K0 5 a3 a4 a5 a7) (f77_1 F a1 a3 a4 a5 a6 a7 (fun x1 => cond (!x1) (K0 3 a3 a4 a5 a7) (f85_1 F a2 (fun x2 => cond (!x2) (K0 4 a3 a4 a5 a7) (f86_1 F a3 a4 a5 a6 a7 (fun x3 x4 x5 x6 => cond (!x3) (K0 5 x4 x5 x6 a7) (cond (decide ((a7.length + 1) * 24 ≤ 70368744177664)) (K0 0 x4 x5 x6 (a7 ++ [(a1, a2)])) none)) )) )) )
variable [FZ]
def sh24_1 : Sh := ⟨[.lf (.ptr 0 0), .lf (.int .i64), .lf (.str)], [some ⟨some false, [.full 1, .full 2, .int .i64, .bool, .int .i64]⟩, some ⟨none, [.seq .str 0]⟩, some ⟨some false, [.seq (.pair (.int .i64) .str) 0]⟩]⟩
abbrev Y24_1 := Int → ByteArray → Int → Bool → Int → List ByteArray → List (Int × ByteArray) → (Int → Int → Bool → Int → List (Int × ByteArray) → Option Res) → Option Res
noncomputable def A24_1 (g : Y24_1) (d : sh24_1.den) (K : KF) : Option Res := g d.1.2.1 d.1.2.2.1 d.2.1.2.2.2.1 d.2.1.2.2.2.2.1 d.2.1.2.2.2.2.2.1 d.2.2.1.2.1 d.2.2.2.1.2.1 (fun y0 y1 y2 y3 y5 => K [.lf (.int .i64 y0)] [some ⟨false, [.full 1, .full 3, .int .i64 y1, .bool y2, .int .i64 y3]⟩, some ⟨d.2.2.1.1, [.seq .str 0 d.2.2.1.2.1]⟩, none, some ⟨false, [.seq (.pair (.int .i64) .str) 0 y5]⟩])
noncomputable def S24_1 (F : Nat) (o : Summ) : Summ := mkS sh24_1 (fun d K => A24_1 (f24_1 F) d K) o
noncomputable def code24 : Code := bodyOf Tryz.f24
theorem enter24 : En Tryz.prog 24 := enO (fn := Tryz.f24)
noncomputable def T24_1 (F : Nat) : FuncId → Option Summ := tab [(77, (S77_1 F noS)), (85, (S85_1 F noS)), (86, (S86_1 F noS))]
noncomputable def LT24_1 (F : Nat) : Nat → Option LoopS := ltab []
theorem E24_1 (F : Nat) (d : sh24_1.den) (K : KF) : EB Tryz.prog (T24_1 F) (xw []) 40 3 (LT24_1 F) [2] false Tryz.f24 sh24_1 d K = A24_1 (f24_1 F) d K := by delta A24_1 f24_1 T24_1 S77_1 S85_1 S86_1 LT24_1;  generalize (f77_1 F : Y77_1) = c, (f85_1 F : Y85_1) = c, (f86_1 F : Y86_1) = c; as_aux_lemma => kernel_rfl
theorem S24_1_ok : So Tryz.prog 24 S24_1 :=
  fun F o ho => sOf (fn := Tryz.f24) (c := code24) (tab_cons (S77_1_ok F _ (noS_sound enter77)) (tab_cons (S85_1_ok F _ (noS_sound enter85)) (tab_cons (S86_1_ok F _ (noS_sound enter86)) tab_nil))) ho lnil snil rnil (E24_1 F)
end
section
noncomputable def f24_1385 {β : Type} (F : Nat) (a1 : Int) (a2 : ByteArray) (K0 : Option β) : Option β := K0
variable [FZ]
def sh24_1385 : Sh := ⟨[.lf (.nilp), .lf (.int .i64), .lf (.str)], []⟩
abbrev Y24_1385 := Int → ByteArray → (Option Res) → Option Res
noncomputable def A24_1385 (g : Y24_1385) (d : sh24_1385.den) (K : KF) : Option Res := g d.1.2.1 d.1.2.2.1 (K [.lf (.int .i64 1)] [])
noncomputable def S24_1385 (F : Nat) (o : Summ) : Summ := mkS sh24_1385 (fun d K => A24_1385 (f24_1385 F) d K) o
noncomputable def T24_1385 (F : Nat) : FuncId → Option Summ := tab []
noncomputable def LT24_1385 (F : Nat) : Nat → Option LoopS := ltab []
theorem E24_1385 (F : Nat) (d : sh24_1385.den) (K : KF) : EB Tryz.prog (T24_1385 F) (xw []) 40 0 (LT24_1385 F) [] false Tryz.f24 sh24_1385 d K = A24_1385 (f24_1385 F) d K := by delta A24_1385 f24_1385 T24_1385 LT24_1385;   as_aux_lemma => kernel_rfl
theorem S24_1385_ok : So Tryz.prog 24 S24_1385 :=
  fun F o ho => sOf (fn := Tryz.f24) (c := code24) tab_nil ho lnil snil rnil (E24_1385 F)
end
section
noncomputable def f25_1 {β : Type} (F : Nat) (a1 a2 a3 a4 a5 : Int) (K0 : Int → Option β) : Option β := f21_1 F a1 a2 a3 a4 (fun x1 => cond (!x1) (K0 (-1)) (cond (decide (a5 < 0)) (K0 (-1)) (cond (decide (a5 ≥ a1)) (K0 (-1)) (K0 (IntKind.i64.wrap (6 + a5)))))) 
variable [FZ]
def sh25_1 : Sh := ⟨[.agg [.int .i64, .int .i64, .int .i64, .int .i64], .lf (.int .i64)], []⟩
abbrev Y25_1 := Int → Int → Int → Int → Int → (Int → Option Res) → Option Res
noncomputable def A25_1 (g : Y25_1) (d : sh25_1.den) (K : KF) : Option Res := g d.1.1.1 d.1.1.2.1 d.1.1.2.2.1 d.1.1.2.2.2.1 d.1.2.1 (fun y0 => K [.lf (.int .i64 y0)] [])
noncomputable def S25_1 (F : Nat) (o : Summ) : Summ := mkS sh25_1 (fun d K => A25_1 (f25_1 F) d K) o
noncomputable def code25 : Code := bodyOf Tryz.f25
theorem enter25 : En Tryz.prog 25 := enO (fn := Tryz.f25)
noncomputable def T25_1 (F : Nat) : FuncId → Option Summ := tab [(21, (S21_1 F noS))]
noncomputable def LT25_1 (F : Nat) : Nat → Option LoopS := ltab []
theorem E25_1 (F : Nat) (d : sh25_1.den) (K : KF) : EB Tryz.prog (T25_1 F) (xw []) 20 0 (LT25_1 F) [] false Tryz.f25 sh25_1 d K = A25_1 (f25_1 F) d K := by delta A25_1 f25_1 T25_1 S21_1 LT25_1;  generalize (f21_1 F : Y21_1) = c; as_aux_lemma => kernel_rfl
theorem S25_1_ok : So Tryz.prog 25 S25_1 :=
  fun F o ho => sOf (fn := Tryz.f25) (c := code25) (tab_cons (S21_1_ok F _ (noS_sound enter21)) tab_nil) ho lnil snil rnil (E25_1 F)
end
section
noncomputable def f15_1 {β : Type} (F : Nat) (a1 a2 : Int) (a3 : Bool) (a4 : Int) (a5 : List ByteArray) (a6 : List (Int × ByteArray)) (K0 : ByteArray → Int → Option β) : Option β := f77_1 F a1 a2 a3 a4 a5 a6 (fun x1 => cond (!x1) (K0 ByteArray.empty 3) (cond (decide ((0 : Int) ≤ a1 ∧ a1 < ((a5.length : Nat) : Int))) (cond (decide (0 + a1.toNat < a5.length)) (K0 (a5.getD (0 + a1.toNat) ByteArray.empty) 0) none) none)) 
variable [FZ]
def sh15_1 : Sh := ⟨[.lf (.ptr 0 0), .lf (.int .i64)], [some ⟨none, [.full 1, .full 2, .int .i64, .bool, .int .i64]⟩, some ⟨none, [.seq .str 0]⟩, some ⟨none, [.seq (.pair (.int .i64) .str) 0]⟩]⟩
abbrev Y15_1 := Int → Int → Bool → Int → List ByteArray → List (Int × ByteArray) → (ByteArray → Int → Option Res) → Option Res
noncomputable def A15_1 (g : Y15_1) (d : sh15_1.den) (K : KF) : Option Res := g d.1.2.1 d.2.1.2.2.2.1 d.2.1.2.2.2.2.1 d.2.1.2.2.2.2.2.1 d.2.2.1.2.1 d.2.2.2.1.2.1 (fun y0 y1 => K [.lf (.str y0), .lf (.int .i64 y1)] [some ⟨d.2.1.1, [.full 1, .full 2, .int .i64 d.2.1.2.2.2.1, .bool d.2.1.2.2.2.2.1, .int .i64 d.2.1.2.2.2.2.2.1]⟩, some ⟨d.2.2.1.1, [.seq .str 0 d.2.2.1.2.1]⟩, some ⟨d.2.2.2.1.1, [.seq (.pair (.int .i64) .str) 0 d.2.2.2.1.2.1]⟩])
noncomputable def S15_1 (F : Nat) (o : Summ) : Summ := mkS sh15_1 (fun d K => A15_1 (f15_1 F) d K) o
noncomputable def code15 : Code := bodyOf Tryz.f15
theorem enter15 : En Tryz.prog 15 := enO (fn := Tryz.f15)
noncomputable def T15_1 (F : Nat) : FuncId → Option Summ := tab [(77, (S77_1 F noS))]
noncomputable def LT15_1 (F : Nat) : Nat → Option LoopS := ltab []
theorem E15_1 (F : Nat) (d : sh15_1.den) (K : KF) : EB Tryz.prog (T15_1 F) (xw []) 21 3 (LT15_1 F) [] false Tryz.f15 sh15_1 d K = A15_1 (f15_1 F) d K := by delta A15_1 f15_1 T15_1 S77_1 LT15_1;  generalize (f77_1 F : Y77_1) = c; as_aux_lemma => kernel_rfl
theorem S15_1_ok : So Tryz.prog 15 S15_1 :=
  fun F o ho => sOf (fn := Tryz.f15) (c := code15) (tab_cons (S77_1_ok F _ (noS_sound enter77)) tab_nil) ho lnil snil rnil (E15_1 F)
end
section
noncomputable def f99_1 {β : Type} (F : Nat) (a1 : List (Int × ByteArray)) (K0 : Option β) : Option β := K0
variable [FZ]
def sh99_1 : Sh := ⟨[.lf (.full 0)], [some ⟨none, [.seq (.pair (.int .i64) .str) 0]⟩]⟩
abbrev Y99_1 := List (Int × ByteArray) → (Option Res) → Option Res
noncomputable def A99_1 (g : Y99_1) (d : sh99_1.den) (K : KF) : Option Res := g d.2.1.2.1 (K [.lf (.clo 152 [1])] [some ⟨d.2.1.1, [.seq (.pair (.int .i64) .str) 0 d.2.1.2.1]⟩, some ⟨false, [.full 0]⟩])
noncomputable def S99_1 (F : Nat) (o : Summ) : Summ := mkS sh99_1 (fun d K => A99_1 (f99_1 F) d K) o
noncomputable def code99 : Code := bodyOf Tryz.f99
theorem enter99 : En Tryz.prog 99 := enO (fn := Tryz.f99)
noncomputable def T99_1 (F : Nat) : FuncId → Option Summ := tab []
noncomputable def LT99_1 (F : Nat) : Nat → Option LoopS := ltab []
theorem E99_1 (F : Nat) (d : sh99_1.den) (K : KF) : EB Tryz.prog (T99_1 F) (xw []) 4 1 (LT99_1 F) [] false Tryz.f99 sh99_1 d K = A99_1 (f99_1 F) d K := by delta A99_1 f99_1 T99_1 LT99_1;   as_aux_lemma => kernel_rfl
theorem S99_1_ok : So Tryz.prog 99 S99_1 :=
  fun F o ho => sOf (fn := Tryz.f99) (c := code99) tab_nil ho lnil snil rnil (E99_1 F)
end
section
noncomputable def f37_1_r2000006_l1 {β : Type} (F : Nat) (v10 : Int) (v11 : Bool) (v12 : Int) (v13 : List ByteArray) (v14 : List (Int × ByteArray)) (v15 : Int) (v16 : ByteArray) (v17 : Int) (K0 : ByteArray → Int → ByteArray → Option β) (K1 : Option β) : Nat → Int → Option β
  | 0, _ => none
  | k + 1, v9 => cond (decide (v9 ≥ 0)) (cond (decide ((0 : Int) ≤ v9 ∧ v9 < ((v14.length : Nat) : Int))) (cond (decide (0 + v9.toNat < v14.length)) (cond (((v14.getD (0 + v9.toNat) (0, ByteArray.empty)).1) == v15) (K0 ((v14.getD (0 + v9.toNat) (0, ByteArray.empty)).2) ((v14.getD (0 + v9.toNat) (0, ByteArray.empty)).1) ((v14.getD (0 + v9.toNat) (0, ByteArray.empty)).2)) (f37_1_r2000006_l1 F v10 v11 v12 v13 v14 v15 v16 v17 K0 K1 k (IntKind.i64.wrap (v9 - 1)))) none) none) (K1)
noncomputable def f37_1_r2000006 {β : Type} (F : Nat) (v1 : Int) (v2 : Bool) (v3 : Int) (v4 : List ByteArray) (v5 : List (Int × ByteArray)) (v6 : Int) (v7 : ByteArray) (v8 : Int) (K0 : ByteArray → Int → ByteArray → Option β) (K1 : Option β) : Option β := f37_1_r2000006_l1 F v1 v2 v3 v4 v5 v6 v7 v8 (fun x18 x19 x20 => K0 x18 x19 x20) (K1) F (IntKind.i64.wrap (((v5.length : Nat) : Int) - 1))
noncomputable def f37_1 {β : Type} (F : Nat) (a1 a2 : Int) (a3 : Bool) (a4 : Int) (a5 : List ByteArray) (a6 : List (Int × ByteArray)) (K0 : ByteArray → Int → Option β) : Option β := cond a3 (K0 ByteArray.empty 5) (f99_1 F a6 (f37_1_r2000006 F a2 a3 a4 a5 a6 a1 ByteArray.empty 0 (fun x21 x22 x23 => K0 x21 0) (f15_1 F a1 a2 a3 a4 a5 a6 (fun x24 x25 => K0 x24 x25) ) ) )
variable [FZ]
def sh37_1 : Sh := ⟨[.lf (.ptr 0 0), .lf (.int .i64)], [some ⟨none, [.full 1, .full 2, .int .i64, .bool, .int .i64]⟩, some ⟨none, [.seq .str 0]⟩, some ⟨none, [.seq (.pair (.int .i64) .str) 0]⟩]⟩
abbrev Y37_1 := Int → Int → Bool → Int → List ByteArray → List (Int × ByteArray) → (ByteArray → Int → Option Res) → Option Res
noncomputable def A37_1 (g : Y37_1) (d : sh37_1.den) (K : KF) : Option Res := g d.1.2.1 d.2.1.2.2.2.1 d.2.1.2.2.2.2.1 d.2.1.2.2.2.2.2.1 d.2.2.1.2.1 d.2.2.2.1.2.1 (fun y0 y1 => K [.lf (.str y0), .lf (.int .i64 y1)] [some ⟨d.2.1.1, [.full 1, .full 2, .int .i64 d.2.1.2.2.2.1, .bool d.2.1.2.2.2.2.1, .int .i64 d.2.1.2.2.2.2.2.1]⟩, some ⟨d.2.2.1.1, [.seq .str 0 d.2.2.1.2.1]⟩, some ⟨d.2.2.2.1.1, [.seq (.pair (.int .i64) .str) 0 d.2.2.2.1.2.1]⟩])
noncomputable def S37_1 (F : Nat) (o : Summ) : Summ := mkS sh37_1 (fun d K => A37_1 (f37_1 F) d K) o
noncomputable def code37 : Code := bodyOf Tryz.f37
noncomputable def rg37_0 : Code := cB (cR (cL (cR (cR (code37)))))
theorem ranges37 : rangesOf code37 = [.rangeFunc (rgG rg37_0) (rgP rg37_0) (rgX rg37_0) (rgY rg37_0)] := by kernel_rfl
theorem enter37 : En Tryz.prog 37 := enO (fn := Tryz.f37)
noncomputable def T37_1 (F : Nat) : FuncId → Option Summ := tab [(15, (S15_1 F noS)), (99, (S99_1 F noS))]
def sh37_1_l2000006 : Sh := ⟨[.lf (.ptr 0 0), .lf (.ptr 3 0), .lf (.ptr 4 0), .lf (.ptr 5 0), .lf (.clo 152 [6])], [some ⟨none, [.full 1, .full 2, .int .i64, .bool, .int .i64]⟩, some ⟨none, [.seq .str 0]⟩, some ⟨none, [.seq (.pair (.int .i64) .str) 0]⟩, some ⟨some false, [.int .i64]⟩, some ⟨some false, [.str]⟩, some ⟨some false, [.int .i64]⟩, some ⟨some false, [.full 2]⟩]⟩
noncomputable def G37_1_2000006 (F k : Nat) : LoopS := mkG sh37_1_l2000006 [0, 3, 4, 5, 20] (outT [(.normal, [0, 3, 4, 5]), (.ret, [4, 5])]) (fun d K => f37_1_r2000006 F d.2.1.2.2.2.1 d.2.1.2.2.2.2.1 d.2.1.2.2.2.2.2.1 d.2.2.1.2.1 d.2.2.2.1.2.1 d.2.2.2.2.1.2.1 d.2.2.2.2.2.1.2.1 d.2.2.2.2.2.2.1.2.1 (fun y6 y8 y9 => K .ret [.tv (.lf (.ptr 4 0)), .tv (.lf (.ptr 5 0))] [some ⟨d.2.1.1, [.full 1, .full 2, .int .i64 d.2.1.2.2.2.1, .bool d.2.1.2.2.2.2.1, .int .i64 d.2.1.2.2.2.2.2.1]⟩, some ⟨d.2.2.1.1, [.seq .str 0 d.2.2.1.2.1]⟩, some ⟨d.2.2.2.1.1, [.seq (.pair (.int .i64) .str) 0 d.2.2.2.1.2.1]⟩, some ⟨false, [.int .i64 d.2.2.2.2.1.2.1]⟩, some ⟨false, [.str y6]⟩, some ⟨false, [.int .i64 0]⟩, some ⟨false, [.full 2]⟩, none, none, none, none, some ⟨false, [.int .i64 y8, .str y9]⟩]) (K .normal [.tv (.lf (.ptr 0 0)), .tv (.lf (.ptr 3 0)), .tv (.lf (.ptr 4 0)), .tv (.lf (.ptr 5 0))] [some ⟨d.2.1.1, [.full 1, .full 2, .int .i64 d.2.1.2.2.2.1, .bool d.2.1.2.2.2.2.1, .int .i64 d.2.1.2.2.2.2.2.1]⟩, some ⟨d.2.2.1.1, [.seq .str 0 d.2.2.1.2.1]⟩, some ⟨d.2.2.2.1.1, [.seq (.pair (.int .i64) .str) 0 d.2.2.2.1.2.1]⟩, some ⟨false, [.int .i64 d.2.2.2.2.1.2.1]⟩, some ⟨false, [.str d.2.2.2.2.2.1.2.1]⟩, some ⟨false, [.int .i64 d.2.2.2.2.2.2.1.2.1]⟩, some ⟨false, [.full 2]⟩, none, none, none, none])) []
noncomputable def LT37_1 (F : Nat) : Nat → Option LoopS := ltab [(2000006, G37_1_2000006 F F)]
noncomputable def ic37_1_2000006 : Code := bodyOf Tryz.f152
noncomputable def ic37_1_2000006_b0 : Code := cB (cB (cR (ic37_1_2000006)))
theorem ic37_1_2000006_loops : loopsOf ic37_1_2000006 = [ic37_1_2000006_b0] := by kernel_rfl
theorem ic37_1_2000006_scopes : scopesOf ic37_1_2000006 = [] := by kernel_rfl
def sh37_1_r2000006_l1 : Sh := ⟨[.lf (.yld 7), .lf (.ptr 6 0), .lf (.int .i64)], [some ⟨none, [.full 1, .full 2, .int .i64, .bool, .int .i64]⟩, some ⟨none, [.seq .str 0]⟩, some ⟨none, [.seq (.pair (.int .i64) .str) 0]⟩, some ⟨some false, [.int .i64]⟩, some ⟨some false, [.str]⟩, some ⟨some false, [.int .i64]⟩, some ⟨some false, [.full 2]⟩, some ⟨some false, []⟩, none, none, some ⟨some false, []⟩]⟩
noncomputable def GI37_1_2000006_1 (F : Nat) (d : sh37_1_l2000006.den) (k : Nat) : LoopS := mkG sh37_1_r2000006_l1 [0, 1, 3] (outT [(.exit 0, []), (.ret, [])]) (fun e K => f37_1_r2000006_l1 F e.2.1.2.2.2.1 e.2.1.2.2.2.2.1 e.2.1.2.2.2.2.2.1 e.2.2.1.2.1 e.2.2.2.1.2.1 e.2.2.2.2.1.2.1 e.2.2.2.2.2.1.2.1 e.2.2.2.2.2.2.1.2.1 (fun y6 y8 y9 => K .ret [] [some ⟨e.2.1.1, [.full 1, .full 2, .int .i64 e.2.1.2.2.2.1, .bool e.2.1.2.2.2.2.1, .int .i64 e.2.1.2.2.2.2.2.1]⟩, some ⟨e.2.2.1.1, [.seq .str 0 e.2.2.1.2.1]⟩, some ⟨e.2.2.2.1.1, [.seq (.pair (.int .i64) .str) 0 e.2.2.2.1.2.1]⟩, some ⟨false, [.int .i64 e.2.2.2.2.1.2.1]⟩, some ⟨false, [.str y6]⟩, some ⟨false, [.int .i64 0]⟩, some ⟨false, [.full 2]⟩, none, none, some ⟨false, []⟩, some ⟨false, []⟩, some ⟨false, [.int .i64 y8, .str y9]⟩]) (K (.exit 0) [] [some ⟨e.2.1.1, [.full 1, .full 2, .int .i64 e.2.1.2.2.2.1, .bool e.2.1.2.2.2.2.1, .int .i64 e.2.1.2.2.2.2.2.1]⟩, some ⟨e.2.2.1.1, [.seq .str 0 e.2.2.1.2.1]⟩, some ⟨e.2.2.2.1.1, [.seq (.pair (.int .i64) .str) 0 e.2.2.2.1.2.1]⟩, some ⟨false, [.int .i64 e.2.2.2.2.1.2.1]⟩, some ⟨false, [.str e.2.2.2.2.2.1.2.1]⟩, some ⟨false, [.int .i64 e.2.2.2.2.2.2.1.2.1]⟩, some ⟨false, [.full 2]⟩, some ⟨false, []⟩, none, none, some ⟨false, []⟩]) k e.1.2.2.1) []
noncomputable def it37_1_2000006 (F : Nat) (d : sh37_1_l2000006.den) : Nat → Option LoopS := ltab [(1, GI37_1_2000006_1 F d F)]
theorem LI37_1_2000006_1 (F : Nat) (d : sh37_1_l2000006.den) : LoopOK Tryz.prog (T37_1 F) ⟨[], false, some (yieldOf Tryz.prog (T37_1 F) [] 34 noLT (mkEnv 34 [0, 3, 4, 5, 20] (avsOf (encT sh37_1_l2000006.vs d.1))) (rgP rg37_0).toList (rgX rg37_0) (rgY rg37_0) .ret 7), noJn⟩ 19 11 (it37_1_2000006 F d) (GI37_1_2000006_1 F d F) ic37_1_2000006_b0 :=
  loopOK_of (s := sh37_1_r2000006_l1) (live := [0, 1, 3]) (out := (outT [(.exit 0, []), (.ret, [])])) (mv := []) (fun k e K => f37_1_r2000006_l1 F e.2.1.2.2.2.1 e.2.1.2.2.2.2.1 e.2.1.2.2.2.2.2.1 e.2.2.1.2.1 e.2.2.2.1.2.1 e.2.2.2.2.1.2.1 e.2.2.2.2.2.1.2.1 e.2.2.2.2.2.2.1.2.1 (fun y6 y8 y9 => K .ret [] [some ⟨e.2.1.1, [.full 1, .full 2, .int .i64 e.2.1.2.2.2.1, .bool e.2.1.2.2.2.2.1, .int .i64 e.2.1.2.2.2.2.2.1]⟩, some ⟨e.2.2.1.1, [.seq .str 0 e.2.2.1.2.1]⟩, some ⟨e.2.2.2.1.1, [.seq (.pair (.int .i64) .str) 0 e.2.2.2.1.2.1]⟩, some ⟨false, [.int .i64 e.2.2.2.2.1.2.1]⟩, some ⟨false, [.str y6]⟩, some ⟨false, [.int .i64 0]⟩, some ⟨false, [.full 2]⟩, none, none, some ⟨false, []⟩, some ⟨false, []⟩, some ⟨false, [.int .i64 y8, .str y9]⟩]) (K (.exit 0) [] [some ⟨e.2.1.1, [.full 1, .full 2, .int .i64 e.2.1.2.2.2.1, .bool e.2.1.2.2.2.2.1, .int .i64 e.2.1.2.2.2.2.2.1]⟩, some ⟨e.2.2.1.1, [.seq .str 0 e.2.2.1.2.1]⟩, some ⟨e.2.2.2.1.1, [.seq (.pair (.int .i64) .str) 0 e.2.2.2.1.2.1]⟩, some ⟨false, [.int .i64 e.2.2.2.2.1.2.1]⟩, some ⟨false, [.str e.2.2.2.2.2.1.2.1]⟩, some ⟨false, [.int .i64 e.2.2.2.2.2.2.1.2.1]⟩, some ⟨false, [.full 2]⟩, some ⟨false, []⟩, none, none, some ⟨false, []⟩]) k e.1.2.2.1) F (fun e K => by kernel_rfl) (fun k e K => by refine (f37_1_r2000006_l1.eq_2 ..).trans ?_; delta T37_1 S15_1 S99_1 it37_1_2000006; generalize (GI37_1_2000006_1 F d F) = c;  (try delta GI37_1_2000006_1); generalize (f15_1 F : Y15_1) = c, (f99_1 F : Y99_1) = c, (f37_1_r2000006_l1 F : Int → Bool → Int → List ByteArray → List (Int × ByteArray) → Int → ByteArray → Int → (ByteArray → Int → ByteArray → Option Res) → (Option Res) → Nat → Int → Option Res) = c; as_aux_lemma => kernel_rfl)
theorem R37_1_2000006 (F : Nat) : RangeOK Tryz.prog (xw []) 34 3 (G37_1_2000006 F F) (.rangeFunc (rgG rg37_0) (rgP rg37_0) (rgX rg37_0) (rgY rg37_0)) :=
  rangeOK_of (X := (xw [])) (jump := .ret) (fun h => by cases h) rfl rfl (by kernel_rfl) (tab_cons (S15_1_ok F _ (noS_sound enter15)) (tab_cons (S99_1_ok F _ (noS_sound enter99)) tab_nil)) (s := sh37_1_l2000006) (live := [0, 3, 4, 5, 20]) (out := (outT [(.normal, [0, 3, 4, 5]), (.ret, [4, 5])])) (fun d K => f37_1_r2000006 F d.2.1.2.2.2.1 d.2.1.2.2.2.2.1 d.2.1.2.2.2.2.2.1 d.2.2.1.2.1 d.2.2.2.1.2.1 d.2.2.2.2.1.2.1 d.2.2.2.2.2.1.2.1 d.2.2.2.2.2.2.1.2.1 (fun y6 y8 y9 => K .ret [.tv (.lf (.ptr 4 0)), .tv (.lf (.ptr 5 0))] [some ⟨d.2.1.1, [.full 1, .full 2, .int .i64 d.2.1.2.2.2.1, .bool d.2.1.2.2.2.2.1, .int .i64 d.2.1.2.2.2.2.2.1]⟩, some ⟨d.2.2.1.1, [.seq .str 0 d.2.2.1.2.1]⟩, some ⟨d.2.2.2.1.1, [.seq (.pair (.int .i64) .str) 0 d.2.2.2.1.2.1]⟩, some ⟨false, [.int .i64 d.2.2.2.2.1.2.1]⟩, some ⟨false, [.str y6]⟩, some ⟨false, [.int .i64 0]⟩, some ⟨false, [.full 2]⟩, none, none, none, none, some ⟨false, [.int .i64 y8, .str y9]⟩]) (K .normal [.tv (.lf (.ptr 0 0)), .tv (.lf (.ptr 3 0)), .tv (.lf (.ptr 4 0)), .tv (.lf (.ptr 5 0))] [some ⟨d.2.1.1, [.full 1, .full 2, .int .i64 d.2.1.2.2.2.1, .bool d.2.1.2.2.2.2.1, .int .i64 d.2.1.2.2.2.2.2.1]⟩, some ⟨d.2.2.1.1, [.seq .str 0 d.2.2.1.2.1]⟩, some ⟨d.2.2.2.1.1, [.seq (.pair (.int .i64) .str) 0 d.2.2.2.1.2.1]⟩, some ⟨false, [.int .i64 d.2.2.2.2.1.2.1]⟩, some ⟨false, [.str d.2.2.2.2.2.1.2.1]⟩, some ⟨false, [.int .i64 d.2.2.2.2.2.2.1.2.1]⟩, some ⟨false, [.full 2]⟩, none, none, none, none])) (it37_1_2000006 F) (f := 152) (fn := Tryz.f152) (c := ic37_1_2000006) (wrI := []) (enter_of (fn := Tryz.f152) (by kernel_rfl) (by kernel_rfl) (by kernel_rfl)) (by kernel_rfl) (by kernel_rfl) (by kernel_rfl) (fun d K => by delta f37_1_r2000006 T37_1 S15_1 S99_1 it37_1_2000006;  delta GI37_1_2000006_1; generalize (f15_1 F : Y15_1) = c, (f99_1 F : Y99_1) = c, (f37_1_r2000006_l1 F : Int → Bool → Int → List ByteArray → List (Int × ByteArray) → Int → ByteArray → Int → (ByteArray → Int → ByteArray → Option Res) → (Option Res) → Nat → Int → Option Res) = c; as_aux_lemma => kernel_rfl) (fun d => by rw [ic37_1_2000006_loops]; exact (loopsOK_cons (by kernel_rfl) (LI37_1_2000006_1 F d) loopsOK_nil)) (fun d => by rw [ic37_1_2000006_scopes]; exact scopesOK_nil) (by kernel_rfl)
theorem E37_1 (F : Nat) (d : sh37_1.den) (K : KF) : EB Tryz.prog (T37_1 F) (xw []) 34 3 (LT37_1 F) [] false Tryz.f37 sh37_1 d K = A37_1 (f37_1 F) d K := by delta A37_1 f37_1 T37_1 S15_1 S99_1 LT37_1;  delta G37_1_2000006; generalize (f15_1 F : Y15_1) = c, (f99_1 F : Y99_1) = c, (f37_1_r2000006 F : Int → Bool → Int → List ByteArray → List (Int × ByteArray) → Int → ByteArray → Int → (ByteArray → Int → ByteArray → Option Res) → (Option Res) → Option Res) = c; as_aux_lemma => kernel_rfl
theorem S37_1_ok : So Tryz.prog 37 S37_1 :=
  fun F o ho => sOf (fn := Tryz.f37) (c := code37) (tab_cons (S15_1_ok F _ (noS_sound enter15)) (tab_cons (S99_1_ok F _ (noS_sound enter99)) tab_nil)) ho lnil snil (by rw [ranges37]; exact (rangesOK_cons (by kernel_rfl) (R37_1_2000006 F) rangesOK_nil)) (E37_1 F)
end
section
noncomputable def f37_6206 {β : Type} (F : Nat) (a1 : Int) (K0 : Option β) : Option β := K0
variable [FZ]
def sh37_6206 : Sh := ⟨[.lf (.nilp), .lf (.int .i64)], []⟩
abbrev Y37_6206 := Int → (Option Res) → Option Res
noncomputable def A37_6206 (g : Y37_6206) (d : sh37_6206.den) (K : KF) : Option Res := g d.1.2.1 (K [.lf (.str ByteArray.empty), .lf (.int .i64 1)] [])
noncomputable def S37_6206 (F : Nat) (o : Summ) : Summ := mkS sh37_6206 (fun d K => A37_6206 (f37_6206 F) d K) o
noncomputable def T37_6206 (F : Nat) : FuncId → Option Summ := tab []
noncomputable def LT37_6206 (F : Nat) : Nat → Option LoopS := ltab []
theorem E37_6206 (F : Nat) (d : sh37_6206.den) (K : KF) : EB Tryz.prog (T37_6206 F) (xw []) 34 0 (LT37_6206 F) [] false Tryz.f37 sh37_6206 d K = A37_6206 (f37_6206 F) d K := by delta A37_6206 f37_6206 T37_6206 LT37_6206;   as_aux_lemma => kernel_rfl
theorem S37_6206_ok : So Tryz.prog 37 S37_6206 :=
  fun F o ho => sOf (fn := Tryz.f37) (c := code37) tab_nil ho lnil snil (by rw [ranges37]; exact (rangesOK_skip (by kernel_rfl) rangesOK_nil)) (E37_6206 F)
end
section
noncomputable def f39_1 {β : Type} (F : Nat) (a1 a2 a3 a4 : Int) (K0 : Bool → Option β) : Option β := cond (decide (a1 ≤ 20)) (cond (decide (a3 ≤ 20)) (K0 (decide (a4 ≤ 60))) (K0 false)) (K0 false)
variable [FZ]
def sh39_1 : Sh := ⟨[.agg [.int .i64, .int .i64, .int .i64, .int .i64]], []⟩
abbrev Y39_1 := Int → Int → Int → Int → (Bool → Option Res) → Option Res
noncomputable def A39_1 (g : Y39_1) (d : sh39_1.den) (K : KF) : Option Res := g d.1.1.1 d.1.1.2.1 d.1.1.2.2.1 d.1.1.2.2.2.1 (fun y0 => K [.lf (.bool y0)] [])
noncomputable def S39_1 (F : Nat) (o : Summ) : Summ := mkS sh39_1 (fun d K => A39_1 (f39_1 F) d K) o
noncomputable def code39 : Code := bodyOf Tryz.f39
theorem enter39 : En Tryz.prog 39 := enO (fn := Tryz.f39)
noncomputable def T39_1 (F : Nat) : FuncId → Option Summ := tab []
noncomputable def LT39_1 (F : Nat) : Nat → Option LoopS := ltab []
theorem E39_1 (F : Nat) (d : sh39_1.den) (K : KF) : EB Tryz.prog (T39_1 F) (xw []) 16 0 (LT39_1 F) [] false Tryz.f39 sh39_1 d K = A39_1 (f39_1 F) d K := by delta A39_1 f39_1 T39_1 LT39_1;   as_aux_lemma => kernel_rfl
theorem S39_1_ok : So Tryz.prog 39 S39_1 :=
  fun F o ho => sOf (fn := Tryz.f39) (c := code39) tab_nil ho lnil snil rnil (E39_1 F)
end
section
noncomputable def f144_1 {β : Type} (F : Nat) (a1 a2 a3 : Int) (K0 : Bool → Option β) : Option β := cond (decide (a1 ≥ a2)) (K0 (decide (a1 ≤ a3))) (K0 false)
variable [FZ]
def sh144_1 : Sh := ⟨[.lf (.int .i64), .lf (.int .i64), .lf (.int .i64)], []⟩
abbrev Y144_1 := Int → Int → Int → (Bool → Option Res) → Option Res
noncomputable def A144_1 (g : Y144_1) (d : sh144_1.den) (K : KF) : Option Res := g d.1.1 d.1.2.1 d.1.2.2.1 (fun y0 => K [.lf (.bool y0)] [])
noncomputable def S144_1 (F : Nat) (o : Summ) : Summ := mkS sh144_1 (fun d K => A144_1 (f144_1 F) d K) o
noncomputable def code144 : Code := bodyOf Tryz.f144
theorem enter144 : En Tryz.prog 144 := enO (fn := Tryz.f144)
noncomputable def T144_1 (F : Nat) : FuncId → Option Summ := tab []
noncomputable def LT144_1 (F : Nat) : Nat → Option LoopS := ltab []
theorem E144_1 (F : Nat) (d : sh144_1.den) (K : KF) : EB Tryz.prog (T144_1 F) (xw []) 15 0 (LT144_1 F) [] false Tryz.f144 sh144_1 d K = A144_1 (f144_1 F) d K := by delta A144_1 f144_1 T144_1 LT144_1;   as_aux_lemma => kernel_rfl
theorem S144_1_ok : So Tryz.prog 144 S144_1 :=
  fun F o ho => sOf (fn := Tryz.f144) (c := code144) tab_nil ho lnil snil rnil (E144_1 F)
end
section
noncomputable def f90_1 {β : Type} (F : Nat) (a1 a2 a3 a4 : Int) (K0 : Bool → Option β) : Option β := f144_1 F a1 1 128 (fun x1 => cond x1 (f144_1 F a2 2 4 (fun x2 => cond x2 (f144_1 F a3 0 64 (fun x3 => cond x3 (f144_1 F a4 1 320 (fun x4 => K0 x4) ) (K0 false)) ) (K0 false)) ) (K0 false)) 
variable [FZ]
def sh90_1 : Sh := ⟨[.agg [.int .i64, .int .i64, .int .i64, .int .i64]], []⟩
abbrev Y90_1 := Int → Int → Int → Int → (Bool → Option Res) → Option Res
noncomputable def A90_1 (g : Y90_1) (d : sh90_1.den) (K : KF) : Option Res := g d.1.1.1 d.1.1.2.1 d.1.1.2.2.1 d.1.1.2.2.2.1 (fun y0 => K [.lf (.bool y0)] [])
noncomputable def S90_1 (F : Nat) (o : Summ) : Summ := mkS sh90_1 (fun d K => A90_1 (f90_1 F) d K) o
noncomputable def code90 : Code := bodyOf Tryz.f90
theorem enter90 : En Tryz.prog 90 := enO (fn := Tryz.f90)
noncomputable def T90_1 (F : Nat) : FuncId → Option Summ := tab [(144, (S144_1 F noS))]
noncomputable def LT90_1 (F : Nat) : Nat → Option LoopS := ltab []
theorem E90_1 (F : Nat) (d : sh90_1.den) (K : KF) : EB Tryz.prog (T90_1 F) (xw []) 21 0 (LT90_1 F) [] false Tryz.f90 sh90_1 d K = A90_1 (f90_1 F) d K := by delta A90_1 f90_1 T90_1 S144_1 LT90_1;  generalize (f144_1 F : Y144_1) = c; as_aux_lemma => kernel_rfl
theorem S90_1_ok : So Tryz.prog 90 S90_1 :=
  fun F o ho => sOf (fn := Tryz.f90) (c := code90) (tab_cons (S144_1_ok F _ (noS_sound enter144)) tab_nil) ho lnil snil rnil (E90_1 F)
end
section
noncomputable def f164_1_l5 {β : Type} (F : Nat) (v3 v4 v5 v6 : Int) (K0 : List Int → Option β) : Nat → Int → List Int → Option β
  | 0, _, _ => none
  | k + 1, v2, v7 => cond (decide (v2 > 1)) (cond (decide (v4 = 0)) none (cond (decide ((v7.length + 1) * 8 ≤ 70368744177664)) (f164_1_l5 F v3 v4 v5 v6 K0 k (IntKind.i64.wrap ((IntKind.i64.wrap ((IntKind.i64.wrap (v2 + v4)) - 1)).tdiv v4)) (v7 ++ [IntKind.i64.wrap ((IntKind.i64.wrap ((IntKind.i64.wrap (v2 + v4)) - 1)).tdiv v4)])) none)) (K0 v7)
noncomputable def f164_1 {β : Type} (F : Nat) (a1 a2 a3 a4 : Int) (K0 : List Int → Option β) : Option β := f90_1 F a1 a2 a3 a4 (fun x1 => cond (!x1) (K0 []) (f164_1_l5 F a1 a2 a3 a4 (fun x8 => K0 x8) F a1 [a1])) 
variable [FZ]
def sh164_1 : Sh := ⟨[.agg [.int .i64, .int .i64, .int .i64, .int .i64]], []⟩
abbrev Y164_1 := Int → Int → Int → Int → (List Int → Option Res) → Option Res
noncomputable def A164_1 (g : Y164_1) (d : sh164_1.den) (K : KF) : Option Res := g d.1.1.1 d.1.1.2.1 d.1.1.2.2.1 d.1.1.2.2.2.1 (fun y0 => K [.lf (.full 0)] [some ⟨false, [.seq (.int .i64) 0 y0]⟩])
noncomputable def S164_1 (F : Nat) (o : Summ) : Summ := mkS sh164_1 (fun d K => A164_1 (f164_1 F) d K) o
noncomputable def code164 : Code := bodyOf Tryz.f164
noncomputable def b164_0 : Code := cB (cB (cR (cL (cR (cR (cR (code164)))))))
theorem loops164 : loopsOf code164 = [b164_0] := by kernel_rfl
theorem enter164 : En Tryz.prog 164 := enO (fn := Tryz.f164)
noncomputable def T164_1 (F : Nat) : FuncId → Option Summ := tab [(90, (S90_1 F noS))]
def sh164_1_l5 : Sh := ⟨[.lf (.ptr 0 0), .lf (.full 1), .lf (.int .i64)], [some ⟨some false, [.int .i64, .int .i64, .int .i64, .int .i64]⟩, some ⟨some false, [.seq (.int .i64) 0]⟩]⟩
abbrev Y164_1_l5 := Int → Int → Int → Int → (List Int → Option Res) → Nat → Int → List Int → Option Res
noncomputable def A164_1_l5 (g : Y164_1_l5) (k : Nat) (d : sh164_1_l5.den) (K : KL) : Option Res := g d.2.1.2.1 d.2.1.2.2.1 d.2.1.2.2.2.1 d.2.1.2.2.2.2.1 (fun y4 => K (.exit 0) [.tv (.lf (.full 1))] [some ⟨false, [.int .i64 d.2.1.2.1, .int .i64 d.2.1.2.2.1, .int .i64 d.2.1.2.2.2.1, .int .i64 d.2.1.2.2.2.2.1]⟩, some ⟨false, [.seq (.int .i64) 0 y4]⟩]) k d.1.2.2.1 d.2.2.1.2.1
noncomputable def G164_1_5 (F k : Nat) : LoopS := mkG sh164_1_l5 [1, 3, 4] (outT [(.exit 0, [3])]) (fun d K => A164_1_l5 (f164_1_l5 F) k d K) []
noncomputable def LT164_1 (F : Nat) : Nat → Option LoopS := ltab [(5, G164_1_5 F F)]
theorem L164_1_5 (F : Nat) : LoopOK Tryz.prog (T164_1 F) (xw []) 28 0 (LT164_1 F) (G164_1_5 F F) b164_0 :=
  loopOK_of (s := sh164_1_l5) (live := [1, 3, 4]) (out := (outT [(.exit 0, [3])])) (mv := []) (fun k d K => A164_1_l5 (f164_1_l5 F) k d K) F (fun d K => by kernel_rfl)  (fun k d K => by delta A164_1_l5; refine (f164_1_l5.eq_2 ..).trans ?_; delta T164_1 S90_1 LT164_1; generalize (G164_1_5 F F) = c;  (try delta G164_1_5); generalize (f90_1 F : Y90_1) = c, (f164_1_l5 F : Y164_1_l5) = c; as_aux_lemma => kernel_rfl)
theorem E164_1 (F : Nat) (d : sh164_1.den) (K : KF) : EB Tryz.prog (T164_1 F) (xw []) 28 0 (LT164_1 F) [] false Tryz.f164 sh164_1 d K = A164_1 (f164_1 F) d K := by delta A164_1 f164_1 T164_1 S90_1 LT164_1;  delta G164_1_5; generalize (f90_1 F : Y90_1) = c, (f164_1_l5 F : Y164_1_l5) = c; as_aux_lemma => kernel_rfl
theorem S164_1_ok : So Tryz.prog 164 S164_1 :=
  fun F o ho => sOf (fn := Tryz.f164) (c := code164) (tab_cons (S90_1_ok F _ (noS_sound enter90)) tab_nil) ho (by rw [loops164]; exact (loopsOK_cons (by kernel_rfl) (L164_1_5 F) loopsOK_nil)) snil rnil (E164_1 F)
end
end Go.Proofs.YtlgopekjjkdkiaaGreatDoor.X
end