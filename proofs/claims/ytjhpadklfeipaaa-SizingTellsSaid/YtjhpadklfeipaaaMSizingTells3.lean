/- Merged: EvS16, EvS17, EvS20, EvS21, EvF41, EvF31, EvF34, EvF43, EvF35, EvF19, EvF29, EvF23, EvF30, EvF15, EvF21, EvF17, EvF32, EvF44, EvF36, EvF42, EvF33, EvF22, EvF24, EvF37, EvF25, EvF38, EvF26, EvF6, EvS18, EvS19, PureW, GeoA, GeoB, GeoC, GeoD, PureSizingTells. -/
import Derived.Test.YtjhpadklfeipaaaMSizingTells2
import Derived.LoopN
import Derived.Scope
import Derived.ScopeJumps
import Derived.Laws.Sem
import Derived.RangeFuncCalls
import Derived.KernelRfl
import Derived.Test.YtjhpadklfeipaaaProg
import Derived.ChangeArms
import Derived.OpenShut
import Derived.Below
import Derived.Carry
import Derived.ChangeShapes
import Derived.WideShapes
section
namespace Go.Proofs.Ytjhpadklfeipaaa.Ev
open Go
set_option linter.unusedVariables false
set_option linter.unusedSimpArgs false
set_option linter.unusedSectionVars false
section
variable [FZ]
variable {P : Program}
def exitOf : Xt → Exit
  | .normal => .normal
  | .exit i => .exit i
  | .goto l => .goto l
  | .ret => .ret
def Pin (n0 : Nat) (m m' : GM) : Prop := n0 ≤ m'.length ∧ ∀ i, i < n0 → m'[i]? = m[i]?
theorem Pin.refl {n0 : Nat} {m : GM} (h : n0 ≤ m.length) : Pin n0 m m := ⟨h, fun _ _ => rfl⟩
theorem Pin.trans {n0 : Nat} {a b c : GM} (h : Pin n0 a b) (k : Pin n0 b c) : Pin n0 a c := ⟨k.1, fun i hi => (k.2 i hi).trans (h.2 i hi)⟩
theorem Pin.of_pre {n0 : Nat} {m m' : GM} (h : n0 ≤ m.length) (p : Pre m m') : Pin n0 m m' := by
  have hg : ∀ i, i < n0 → m'[i]? = m[i]? := fun i hi => by
    have hm : m[i]? = some (m[i]'(by omega)) := List.getElem?_eq_getElem _
    rw [hm]; exact p i _ hm
  refine ⟨?_, hg⟩
  cases n0 with
  | zero => omega
  | succ n =>
    have h1 := hg n (by omega)
    rcases Nat.lt_or_ge n m'.length with h2 | h2
    · exact h2
    · rw [List.getElem?_eq_none h2, List.getElem?_eq_getElem (by omega)] at h1; cases h1
def SlotsRel (m : GM) (a : Act) : List Nat → List AV → Prop
  | s :: ss, v :: vs => (isTop v ∨ AVRel m v (a.tmps.getD s undef)) ∧ SlotsRel m a ss vs
  | _, _ => True
theorem eget_topEnv (n i : Nat) : eget (topEnv n) i = .top := by
  induction n generalizing i with
  | zero => rfl
  | succ n ih => cases i with
    | zero => rfl
    | succ i => exact ih i
theorem topEnv_length (n : Nat) : (topEnv n).length = n := by
  induction n with
  | zero => rfl
  | succ n ih => simp [topEnv, ih]
theorem mkEnv_length (n : Nat) : ∀ (ss : List Nat) (vs : List AV), (mkEnv n ss vs).length = n
  | [], vs => by cases vs <;> simp [mkEnv, topEnv_length]
  | s :: ss, [] => by simp [mkEnv, topEnv_length]
  | s :: ss, v :: vs => by simp only [mkEnv, eset_length]; exact mkEnv_length n ss vs
theorem mkEnv_rel {G : Ctx} {m : GM} {a : Act} {n : Nat} (hn : n ≤ a.tmps.size) (hd : a.defers = G.dfs) : ∀ (ss : List Nat) (vs : List AV), SlotsRel m a ss vs → ERel G m (mkEnv n ss vs) a := by
  have base : ERel G m (topEnv n) a := ⟨by rw [topEnv_length]; exact hn, hd, fun i => by rw [eget_topEnv]; exact .inl trivial⟩
  intro ss
  induction ss with
  | nil => intro vs _; cases vs <;> exact base
  | cons s ss ih =>
    intro vs hs
    cases vs with
    | nil => exact base
    | cons v vs =>
      have he := ih vs hs.2
      refine ⟨by rw [mkEnv_length]; exact hn, hd, fun i => ?_⟩
      simp only [mkEnv]
      by_cases hi : s = i
      · subst hi
        by_cases hl : s < (mkEnv n ss vs).length
        · rw [eget_eset_same hl]; exact hs.1
        · rw [eget_out (by rw [eset_length]; exact Nat.le_of_not_lt hl)]; exact .inl trivial
      · rw [eget_eset_ne hi]; exact he.val i
theorem getAll_rel {G : Ctx} {m : GM} {env : Env} {a : Act} (he : ERel G m env a) : ∀ ss, SlotsRel m a ss (getAll env ss)
  | [] => trivial
  | s :: ss => ⟨he.val s, getAll_rel he ss⟩
theorem tvsOf_rel {m : GM} {a : Act} : ∀ {ss : List Nat} {avs : List AV} {vs : List TV}, avs.length = ss.length → SlotsRel m a ss avs → tvsOf avs = some vs → TVs m vs (ss.map fun s => a.tmps.getD s undef)
  | [], [], vs, _, _, h => by cases h; trivial
  | s :: ss, [], vs, hl, _, h => by simp at hl
  | [], v :: avs, vs, hl, _, h => by simp at hl
  | s :: ss, v :: avs, vs, hl, hs, h => by
    unfold tvsOf at h
    split at h
    · cases h; rename_i heq; cases heq
    · cases h
    · rename_i x r hne heq
      cases heq
      split at h
      · rename_i l hl'
        cases h
        refine ⟨?_, tvsOf_rel (by simpa using hl) hs.2 hl'⟩
        rcases hs.1 with ht | ht
        · match x, ht, hne with
          | .lf .top, _, hne => exact (hne rfl).elim
        · exact ht
      · cases h
    · cases h
theorem getAll_length (env : Env) : ∀ ss, (getAll env ss).length = ss.length
  | [] => rfl
  | s :: ss => by simp [getAll, getAll_length env ss]
theorem avsOf_rel {m : GM} {a : Act} : ∀ {ss : List Nat} {vs : List TV}, TVs m vs (ss.map fun s => a.tmps.getD s undef) → SlotsRel m a ss (avsOf vs)
  | [], [], _ => trivial
  | s :: ss, [], h => h.elim
  | [], v :: vs, h => h.elim
  | s :: ss, v :: vs, h => ⟨.inr h.1, avsOf_rel h.2⟩
theorem SlotsRel.mono {m m' : GM} {a : Act} (hp : Pre m m') : ∀ {ss : List Nat} {vs : List AV}, SlotsRel m a ss vs → SlotsRel m' a ss vs
  | [], vs, _ => by cases vs <;> trivial
  | s :: ss, [], _ => trivial
  | s :: ss, v :: vs, h => ⟨h.1.imp id (AVRel.mono hp), SlotsRel.mono hp h.2⟩
section
variable {T : FuncId → Option Summ} {X : Xtra} {nt n0 : Nat} {LT : Nat → Option LoopS}
structure SubR (G G2 : Ctx) : Prop where
  inv : ∀ {m : GM} {h : Heap} {w : World}, Inv G2 m h w → Inv G m h w
  gh : G2.gh = G.gh
  dfs : ∀ d ∈ G2.dfs, d ∈ G.dfs ∨ ∃ D, d = ({ target := .collected D, args := #[] } : Deferred) ∧ G.w0.heap.size ≤ D
  size : G.w0.heap.size ≤ G2.w0.heap.size
theorem SubR.refl (G : Ctx) : SubR G G := ⟨id, rfl, fun d h => .inl h, Nat.le_refl _⟩
theorem SubR.trans {A B C : Ctx} (h : SubR A B) (k : SubR B C) : SubR A C :=
  ⟨fun i => h.inv (k.inv i), k.gh.trans h.gh, fun d hd => by
    rcases k.dfs d hd with h1 | ⟨D, h1, h2⟩
    · exact h.dfs d h1
    · exact .inr ⟨D, h1, Nat.le_trans h.size h2⟩, Nat.le_trans h.size k.size⟩
def Sub (X : Xtra) (G G2 : Ctx) : Prop := G2 = G ∨ ((X.rd || X.y.isSome) = false ∧ SubR G G2)
theorem Sub.refl (X : Xtra) (G : Ctx) : Sub X G G := .inl rfl
theorem Sub.trans {X : Xtra} {A B C : Ctx} (h : Sub X A B) (k : Sub X B C) : Sub X A C := by
  rcases h with rfl | ⟨h1, h2⟩
  · exact k
  · rcases k with rfl | ⟨k1, k2⟩
    · exact .inr ⟨h1, h2⟩
    · exact .inr ⟨h1, h2.trans k2⟩
structure Std (P : Program) (X : Xtra) (n0 : Nat) (m0 : GM) (G : Ctx) : Prop where
  y : YOK P G m0 n0 X
  gn : ∀ x ∈ G.gh, x.1 < n0
  gb : (X.rd || X.y.isSome) = false → G.gh = []
theorem Std.sub {X : Xtra} {n0 : Nat} {m0 : GM} {G G2 : Ctx} (h : Std P X n0 m0 G) (k : Sub X G G2) : Std P X n0 m0 G2 := by
  rcases k with rfl | ⟨k1, k2⟩
  · exact h
  · refine ⟨fun y hy => ?_, by rw [k2.gh]; exact h.gn, by rw [k2.gh]; exact h.gb⟩
    rw [hy] at k1
    simp at k1
def LoopOK (P : Program) (T : FuncId → Option Summ) (X : Xtra) (nt n0 : Nat) (LT : Nat → Option LoopS) (S : LoopS) (b : Code) : Prop :=
  ∃ g : Nat → LoopS, (∀ k, (g k).live = S.live ∧ (g k).out = S.out) ∧
    (∀ vs h K r, S.run vs h K = some r → ∃ n, (g n).run vs h K = some r) ∧
    (∀ vs h K, (g 0).run vs h K = none) ∧
    ∀ k vs h K r, (g (k + 1)).run vs h K = some r → roundOf P T X nt n0 LT (g k) b vs h K = some r
def loopsOf : Code → List Code
  | .seq a b => loopsOf a ++ loopsOf b
  | .cond _ a b => loopsOf a ++ loopsOf b
  | .block _ a => loopsOf a
  | .loop a => a :: loopsOf a
  | .scope a => loopsOf a
  | _ => []
def LoopsOK (P : Program) (T : FuncId → Option Summ) (X : Xtra) (nt n0 : Nat) (LT : Nat → Option LoopS) (l : List Code) : Prop :=
  ∀ b ∈ l, ∀ S, LT (firstRegion b) = some S → LoopOK P T X nt n0 LT S b
variable {r : Res}
def After (X : Xtra) (G : Ctx) (m : GM) (n0 : Nat) (K : Xt → Env → Heap → Option Res) (r : Res) (Q : Exit → Act → World → Prop) : Prop :=
  ∀ G2, Sub X G G2 → ∀ e env' h' m' a' w', K e env' h' = some r → Inv G2 m' h' w' → Pin n0 m m' → ERel G2 m' env' a' → Q (exitOf e) a' w'
def AfterL (X : Xtra) (G : Ctx) (nt n0 : Nat) (m : GM) (out : Xt → List Nat) (K : Xt → List AV → Heap → Option Res) (r : Res) (Q : Exit → Act → World → Prop) : Prop :=
  ∀ G2, Sub X G G2 → ∀ e avs h' m' a' w', K e avs h' = some r → Inv G2 m' h' w' → Pin n0 m m' → nt ≤ a'.tmps.size → a'.defers = G2.dfs → SlotsRel m' a' (out e) avs → Q (exitOf e) a' w'
def LabelOK (P : Program) (T : FuncId → Option Summ) (X : Xtra) (nt n0 : Nat) (LT : Nat → Option LoopS) (S : LoopS) (l : Nat) (b : Code) : Prop :=
  ∃ (g : Nat → LoopS) (rest : Code), findLabel b l = some rest ∧ (∀ k, (g k).live = S.live ∧ (g k).out = S.out) ∧
    (∀ vs h K r, S.run vs h K = some r → ∃ n, (g n).run vs h K = some r) ∧
    (∀ vs h K, (g 0).run vs h K = none) ∧
    (∀ k vs h K r, (g (k + 1)).run vs h K = some r → passOf P T X nt n0 LT (g k) l rest vs h K = some r) ∧
    (∀ {m0 : GM} {G : Ctx} {r : Res} {Q : Exit → Act → World → Prop} {m : GM} {h : Heap} {w : World} {a : Act} {env : Env} {K : Xt → Env → Heap → Option Res}, Std P X n0 m0 G → Pin n0 m0 m → Inv G m h w → ERel G m env a →
      evC P T X nt n0 LT rest env h K = some r → After X G m n0 K r Q → rest.wp P Q a w)
def scopesOf : Code → List Code
  | .seq a b => scopesOf a ++ scopesOf b
  | .cond _ a b => scopesOf a ++ scopesOf b
  | .block _ a => scopesOf a
  | .loop a => scopesOf a
  | .scope a => a :: scopesOf a
  | _ => []
def ScopesOK (P : Program) (T : FuncId → Option Summ) (X : Xtra) (nt n0 : Nat) (LT : Nat → Option LoopS) (l : List Code) : Prop :=
  ∀ b ∈ l, ∀ i S, labelIn b = some i → LT (lkey i) = some S → LabelOK P T X nt n0 LT S i b
def joinsOf : Code → List Code
  | .seq a b => b :: (joinsOf a ++ joinsOf b)
  | .cond _ a b => joinsOf a ++ joinsOf b
  | .block _ a => joinsOf a
  | .loop a => joinsOf a
  | .scope a => joinsOf a
  | _ => []
def JoinOK (P : Program) (T : FuncId → Option Summ) (X : Xtra) (nt n0 : Nat) (LT : Nat → Option LoopS) (S : LoopS) (b : Code) : Prop :=
  ∀ vs h K r, S.run vs h K = some r → joinOf P T X nt n0 LT S b vs h K = some r
def JoinsOK (P : Program) (T : FuncId → Option Summ) (X : Xtra) (nt n0 : Nat) (LT : Nat → Option LoopS) (l : List Code) : Prop :=
  ∀ b ∈ l, ∀ S, X.jn (firstRegion b) = some S → JoinOK P T X nt n0 LT S b
def rangesOf : Code → List Code
  | .seq a b => rangesOf a ++ rangesOf b
  | .cond _ a b => rangesOf a ++ rangesOf b
  | .block _ a => rangesOf a
  | .loop a => rangesOf a
  | .scope a => rangesOf a
  | .rangeFunc g ps x y => [.rangeFunc g ps x y]
  | _ => []
def RangeOK (P : Program) (X : Xtra) (nt n0 : Nat) (S : LoopS) (c : Code) : Prop :=
  ∀ {G : Ctx} {m : GM} {h : Heap} {w : World} {a : Act} {vs : List TV} {K : Xt → List AV → Heap → Option Res} {r : Res} {Q : Exit → Act → World → Prop} {n : Nat}, G.gh = [] → n0 ≤ m.length → Inv G m h w → nt ≤ a.tmps.size → a.defers = G.dfs →
    TVs m vs (S.live.map fun s => a.tmps.getD s undef) → S.run vs h K = some r → AfterL X G nt n0 m S.out K r Q → c.wpIn Fence.wide n P Q a w
def RangesOK (P : Program) (X : Xtra) (nt n0 : Nat) (LT : Nat → Option LoopS) (l : List Code) : Prop :=
  ∀ c ∈ l, ∀ g ps x y, c = .rangeFunc g ps x y → ∀ S, LT (rkey (firstRegion x)) = some S → RangeOK P X nt n0 S c
theorem loopIn_sound {G : Ctx} {S : LoopS} {m : GM} {h : Heap} {w : World} {a : Act} {env : Env} {K : Xt → List AV → Heap → Option Res} (hgn : ∀ x ∈ G.gh, x.1 < n0) (hn0 : n0 ≤ m.length) (hi : Inv G m h w) (he : ERel G m env a)
    (hev : loopIn nt n0 S env h K = some r) :
    ∃ vs' h' m', S.run vs' h' K = some r ∧ Inv G m' h' w ∧ Pin n0 m m' ∧ TVs m' vs' (S.live.map fun s => a.tmps.getD s undef) ∧ nt ≤ a.tmps.size := by
  unfold loopIn at hev
  split at hev
  · rename_i hle
    split at hev
    · rename_i vs hvs
      have hx := tvsOf_rel (getAll_length env S.live) (getAll_rel he S.live) hvs
      rw [normF_eq] at hev
      obtain ⟨vs', h', m', h1, h2, h3, h4, h5⟩ := normVs_sound hi hn0 hgn hx hev
      exact ⟨vs', h', m', h1, h2, ⟨h4, h5⟩, h3, Nat.le_trans (Nat.le_of_ble_eq_true hle) he.len⟩
    · cases hev
  · cases hev
theorem rounds_sound {F : Fence} {k : Nat} {m0 : GM} {b : Code} {Q : Exit → Act → World → Prop} {g : Nat → LoopS} {K : Xt → List AV → Heap → Option Res} {live : List Nat} {out : Xt → List Nat}
    (hg : ∀ k, (g k).live = live ∧ (g k).out = out) (h0 : ∀ vs h K, (g 0).run vs h K = none)
    (hs : ∀ k vs h K r, (g (k + 1)).run vs h K = some r → roundOf P T X nt n0 LT (g k) b vs h K = some r)
    (ih : ∀ {G : Ctx} {Q : Exit → Act → World → Prop} {m : GM} {h : Heap} {w : World} {a : Act} {env : Env} {K : Xt → Env → Heap → Option Res}, Std P X n0 m0 G → Pin n0 m0 m → Inv G m h w → ERel G m env a →
      evC P T X nt n0 LT b env h K = some r → After X G m n0 K r Q → b.wpIn F k P Q a w) :
    ∀ (n : Nat) {G : Ctx} {m : GM} {h : Heap} {w : World} {a : Act} {vs : List TV}, Std P X n0 m0 G → Pin n0 m0 m → Inv G m h w → nt ≤ a.tmps.size → a.defers = G.dfs → TVs m vs (live.map fun s => a.tmps.getD s undef) →
      (g n).run vs h K = some r → AfterL X G nt n0 m out K r Q → Code.roundsIn F k P b Q n a w := by
  intro n
  induction n with
  | zero => intro G m h w a vs _ _ _ _ _ _ hrun; rw [h0] at hrun; cases hrun
  | succ n ihn =>
    intro G m h w a vs hst hp0 hi hnt hd hx hrun hq
    have hr := hs _ _ _ _ _ hrun
    unfold roundOf at hr
    rw [frcAs_eq] at hr
    rw [(hg n).1] at hr
    rw [roundsIn_succ]
    refine ih hst hp0 hi (mkEnv_rel hnt hd live _ (avsOf_rel hx)) hr ?_
    intro G2 hG2 e env' h' m' a' w' hK hi' hp he'
    have leave : ∀ {e : Xt}, loopOut nt (g n) e env' h' K = some r → Q (exitOf e) a' w' := by
      intro e hK
      unfold loopOut at hK
      split at hK
      · rename_i hle
        rw [(hg n).2] at hK
        exact hq G2 hG2 _ _ _ _ _ _ hK hi' hp (Nat.le_trans (Nat.le_of_ble_eq_true hle) he'.len) he'.dfr (getAll_rel he' (out _))
      · cases hK
    cases e with
    | normal =>
      have hst2 := hst.sub hG2
      obtain ⟨vs', h2, m2, h3, h4, h5, h6, h7⟩ := loopIn_sound hst2.gn hp.1 hi' he' hK
      rw [(hg n).1] at h6
      exact ihn hst2 (hp0.trans (hp.trans h5)) h4 h7 he'.dfr h6 h3 fun G3 hG3 e avs h3 m3 a3 w3 q1 q2 q3 => hq G3 (hG2.trans hG3) e avs h3 m3 a3 w3 q1 q2 (hp.trans (h5.trans q3))
    | exit i => exact leave hK
    | goto i => exact leave hK
    | ret => exact leave hK
theorem least {p : Nat → Prop} (h : ∃ n, p n) : ∃ n, p n ∧ ∀ k, p k → n ≤ k := by
  obtain ⟨n, hn⟩ := h
  induction n using Nat.strongRecOn with
  | _ n ih =>
    by_cases hk : ∃ k, k < n ∧ p k
    · obtain ⟨k, h1, h2⟩ := hk
      exact ih k h1 h2
    · exact ⟨n, hn, fun k h => Nat.le_of_not_lt fun hlt => hk ⟨k, hlt, h⟩⟩
open Classical in
theorem passes_sound {b rest : Code} {l : Nat} {Q : Exit → Act → World → Prop} {g : Nat → LoopS} {K : Xt → List AV → Heap → Option Res} {live : List Nat} {out : Xt → List Nat} {m0 m1 : GM} {G0 : Ctx}
    (hf : findLabel b l = some rest) (hg : ∀ k, (g k).live = live ∧ (g k).out = out) (h0 : ∀ vs h K, (g 0).run vs h K = none)
    (hs : ∀ k vs h K r, (g (k + 1)).run vs h K = some r → passOf P T X nt n0 LT (g k) l rest vs h K = some r)
    (ih : ∀ {G : Ctx} {Q : Exit → Act → World → Prop} {m : GM} {h : Heap} {w : World} {a : Act} {env : Env} {K : Xt → Env → Heap → Option Res}, Std P X n0 m0 G → Pin n0 m0 m → Inv G m h w → ERel G m env a →
      evC P T X nt n0 LT rest env h K = some r → After X G m n0 K r Q → rest.wp P Q a w)
    (hst : Std P X n0 m0 G0) (hp0 : Pin n0 m0 m1)
    (hq : ∀ G, Sub X G0 G → ∀ e avs h' m' a' w', K e avs h' = some r → Inv G m' h' w' → Pin n0 m1 m' → nt ≤ a'.tmps.size → a'.defers = G.dfs → SlotsRel m' a' (out e) avs → (∀ i, e ≠ .goto i) → Q (exitOf e) a' w')
    {a : Act} {w : World}
    (first : b.wp P (Exit.jump l (fun a w => ∃ n G m h vs, (g n).run vs h K = some r ∧ Sub X G0 G ∧ Inv G m h w ∧ Pin n0 m1 m ∧ nt ≤ a.tmps.size ∧ a.defers = G.dfs ∧ TVs m vs (live.map fun s => a.tmps.getD s undef)) Q) a w) :
    (Code.scope b).wp P Q a w := by
  let Jn : Nat → Act → World → Prop := fun n a w => ∃ G m h vs, (g n).run vs h K = some r ∧ Sub X G0 G ∧ Inv G m h w ∧ Pin n0 m1 m ∧ nt ≤ a.tmps.size ∧ a.defers = G.dfs ∧ TVs m vs (live.map fun s => a.tmps.getD s undef)
  let J : Act → World → Prop := fun a w => ∃ n, Jn n a w
  let mu : Act → World → Nat := fun a w => if hJ : J a w then Classical.choose (least hJ) else 0
  refine wp_scope_jumps l J mu hf (wp_mono first ?_) ?_
  · intro e a w hh
    cases e with
    | goto i => exact ⟨hh.1, hh.2⟩
    | _ => exact hh
  · intro a w hJ
    have hmin := (Classical.choose_spec (least hJ)).1
    have hmu : mu a w = Classical.choose (least hJ) := dif_pos hJ
    obtain ⟨G, m, h, vs, hrun, hG, hi, hpin, hnt, hd, hx⟩ := hmin
    cases hk : Classical.choose (least hJ) with
    | zero => rw [hk, h0] at hrun; cases hrun
    | succ k =>
      rw [hk] at hrun hmu
      have hr := hs _ _ _ _ _ hrun
      unfold passOf at hr
      rw [frcAs_eq, (hg k).1] at hr
      have hst1 := hst.sub hG
      refine ih hst1 (hp0.trans hpin) hi (mkEnv_rel hnt hd live _ (avsOf_rel hx)) hr ?_
      intro G2 hG2 e env' h' m' a' w' hK hi' hp he'
      have leave : ∀ {e : Xt}, (∀ i, e ≠ .goto i) → loopOut nt (g k) e env' h' K = some r → Q (exitOf e) a' w' := by
        intro e hne hK
        unfold loopOut at hK
        split at hK
        · rename_i hle
          rw [(hg k).2] at hK
          exact hq G2 (hG.trans hG2) _ _ _ _ _ _ hK hi' (hpin.trans hp) (Nat.le_trans (Nat.le_of_ble_eq_true hle) he'.len) he'.dfr (getAll_rel he' (out _)) hne
        · cases hK
      cases e with
      | normal => exact leave (by intro i h; cases h) hK
      | exit i => exact leave (by intro j h; cases h) hK
      | ret => exact leave (by intro i h; cases h) hK
      | goto i =>
        simp only at hK
        split at hK
        · rename_i hil
          subst hil
          obtain ⟨vs', h2, m2, h3, h4, h5, h6, h7⟩ := loopIn_sound (hst1.sub hG2).gn hp.1 hi' he' hK
          rw [(hg k).1] at h6
          have hJk : Jn k a' w' := ⟨G2, m2, h2, vs', h3, hG.trans hG2, h4, hpin.trans (hp.trans h5), h7, he'.dfr, h6⟩
          have hJ' : J a' w' := ⟨k, hJk⟩
          refine ⟨rfl, hJ', ?_⟩
          have e1 : mu a' w' = Classical.choose (least hJ') := dif_pos hJ'
          have e2 : Classical.choose (least hJ') ≤ k := (Classical.choose_spec (least hJ')).2 k hJk
          show mu a' w' < mu a w
          omega
        · cases hK
theorem evC_wpJ {ro : Option Nat} {n : Nat} {m0 : GM} (hr1 : X.rd = false → ro = none) (hr2 : X.y.isSome = true → ro = none) (hm : P.follows .mixedOrders = true) (hT : SoundT P T) : ∀ (c : Code), LoopsOK P T X nt n0 LT (loopsOf c) → ScopesOK P T X nt n0 LT (scopesOf c) → RangesOK P X nt n0 LT (rangesOf c) → JoinsOK P T X nt n0 LT (joinsOf c) →
    ∀ {G : Ctx} {Q : Exit → Act → World → Prop} {m : GM} {h : Heap} {w : World} {a : Act} {env : Env} {K : Xt → Env → Heap → Option Res}, Std P X n0 m0 G → Pin n0 m0 m → Inv G m h w → ERel G m env a →
      evC P T X nt n0 LT c env h K = some r → After X G m n0 K r Q → c.wpIn (FR ro) n P Q a w := by
  intro c
  induction c with
  | skip => intro hl hc hR hJ G Q m h w a env K hst hp0 hi he hev hq; exact wpIn_skip (hq G (Sub.refl X G) _ _ _ _ _ _ hev hi (Pin.refl hp0.1) he)
  | region id ops dr =>
    intro hl hc hR hJ G Q m h w a env K hst hp0 hi he hev hq
    cases dr with
    | false =>
      simp only [evC] at hev
      exact wpIn_region_list (evOps_wpIn hT hst.y hr2 ops.toList hp0.1 hp0.2 hi he hev fun env' h' m' a' w' q1 q2 q3 q4 => hq G (Sub.refl X G) _ _ _ _ _ _ q1 q2 (Pin.of_pre hp0.1 q3) q4)
    | true =>
      simp only [evC, frcAs_eq, frcH_eq] at hev
      split at hev
      · cases hev
      · rename_i hrd
        obtain rfl := hr1 (by simpa using hrd)
        split at hev
        · rename_i l hp
          have hp' : plan P (!!X.wr.contains id) ops = some l := by rw [Bool.not_not]; exact hp
          exact wpIn_wide.2 (region_drawn rfl hm hT hp' hi he hev fun env' h' m' a' w' q1 q2 q3 q4 => hq G (Sub.refl X G) _ _ _ _ _ _ q1 q2 (Pin.of_pre hp0.1 q3) q4)
        · cases hev
  | seq x y ihx ihy =>
    intro hl hc hR hJ G Q m h w a env K hst hp0 hi he hev hq
    simp only [evC] at hev
    refine wpIn_seq (ihx (fun b hb => hl b (by simp [loopsOf, hb])) (fun b hb => hc b (by simp [scopesOf, hb])) (fun b hb => hR b (by simp [rangesOf, hb])) (fun b hb => hJ b (by simp [joinsOf, hb])) hst hp0 hi he hev ?_)
    intro G2 hG2 e env' h' m' a' w' hK hi' hp he'
    cases e with
    | normal =>
      simp only at hK
      split at hK
      · rename_i S hS
        obtain ⟨vs', h2, m2, q1, q2, q3, q4, q5⟩ := loopIn_sound (hst.sub hG2).gn hp.1 hi' he' hK
        have hj := hJ y (by simp [joinsOf]) S hS _ _ _ _ q1
        unfold joinOf at hj
        rw [frcAs_eq] at hj
        refine ihy (fun b hb => hl b (by simp [loopsOf, hb])) (fun b hb => hc b (by simp [scopesOf, hb])) (fun b hb => hR b (by simp [rangesOf, hb])) (fun b hb => hJ b (by simp [joinsOf, hb])) (hst.sub hG2) (hp0.trans (hp.trans q3)) q2 (mkEnv_rel q5 he'.dfr S.live _ (avsOf_rel q4)) hj ?_
        intro G3 hG3 e2 env2 h3 m3 a3 w3 p1 p2 p3 p4
        unfold loopOut at p1
        simp only at p1
        split at p1
        · rename_i hle
          simp only [frcAs_eq, frcH_eq] at p1
          exact hq G3 (hG2.trans hG3) _ _ _ _ _ _ p1 p2 (hp.trans (q3.trans p3)) (mkEnv_rel (Nat.le_trans (Nat.le_of_ble_eq_true hle) p4.len) p4.dfr _ _ (getAll_rel p4 (S.out e2)))
        · cases p1
      · exact ihy (fun b hb => hl b (by simp [loopsOf, hb])) (fun b hb => hc b (by simp [scopesOf, hb])) (fun b hb => hR b (by simp [rangesOf, hb])) (fun b hb => hJ b (by simp [joinsOf, hb])) (hst.sub hG2) (hp0.trans hp) hi' he' hK fun G3 hG3 e2 env2 h2 m2 a2 w2 q1 q2 q3 q4 => hq G3 (hG2.trans hG3) _ _ _ _ _ _ q1 q2 (hp.trans q3) q4
    | exit i => exact hq G2 hG2 (.exit i) _ _ _ _ _ hK hi' hp he'
    | goto i => exact hq G2 hG2 (.goto i) _ _ _ _ _ hK hi' hp he'
    | ret => exact hq G2 hG2 .ret _ _ _ _ _ hK hi' hp he'
  | cond c x y ihx ihy =>
    intro hl hc hR hJ G Q m h w a env K hst hp0 hi he hev hq
    simp only [evC] at hev
    split at hev
    · rename_i t ht
      have hcv : a.eval c = .bool t := opd_rel he ht
      refine wpIn_cond hcv ?_
      cases t with
      | true => exact ihx (fun b hb => hl b (by simp [loopsOf, hb])) (fun b hb => hc b (by simp [scopesOf, hb])) (fun b hb => hR b (by simp [rangesOf, hb])) (fun b hb => hJ b (by simp [joinsOf, hb])) hst hp0 hi he hev hq
      | false => exact ihy (fun b hb => hl b (by simp [loopsOf, hb])) (fun b hb => hc b (by simp [scopesOf, hb])) (fun b hb => hR b (by simp [rangesOf, hb])) (fun b hb => hJ b (by simp [joinsOf, hb])) hst hp0 hi he hev hq
    · cases hev
  | block id b ih =>
    intro hl hc hR hJ G Q m h w a env K hst hp0 hi he hev hq
    simp only [evC] at hev
    refine wpIn_block (ih hl hc hR hJ hst hp0 hi he hev ?_)
    intro G2 hG2 e env' h' m' a' w' hK hi' hp he'
    cases e with
    | normal => exact hq G2 hG2 .normal _ _ _ _ _ hK hi' hp he'
    | exit j =>
      simp only at hK
      simp only [exitOf, Exit.inBlock]
      split at hK
      · rename_i hj; rw [if_pos hj]; exact hq G2 hG2 .normal _ _ _ _ _ hK hi' hp he'
      · rename_i hj; rw [if_neg hj]; exact hq G2 hG2 (.exit j) _ _ _ _ _ hK hi' hp he'
    | goto i => exact hq G2 hG2 (.goto i) _ _ _ _ _ hK hi' hp he'
    | ret => exact hq G2 hG2 .ret _ _ _ _ _ hK hi' hp he'
  | loop b ih =>
    intro hl hc hR hJ G Q m h w a env K hst hp0 hi he hev hq
    simp only [evC] at hev
    split at hev
    · rename_i S hS
      obtain ⟨g, hg, h1, h2, h3⟩ := hl b (by simp [loopsOf]) S hS
      obtain ⟨vs', h', m', q1, q2, q3, q4, q5⟩ := loopIn_sound hst.gn hp0.1 hi he hev
      obtain ⟨k, hrun⟩ := h1 _ _ _ _ q1
      refine wpIn_loop_rounds k (rounds_sound (live := S.live) (out := S.out) hg h2 h3 (ih (fun b' hb => hl b' (by simp [loopsOf, hb])) (fun b' hb => hc b' (by simpa [scopesOf] using hb)) (fun b' hb => hR b' (by simpa [rangesOf] using hb)) (fun b' hb => hJ b' (by simpa [joinsOf] using hb))) k hst (hp0.trans q3) q2 q5 he.dfr q4 hrun ?_)
      intro G2 hG2 e avs h'' m'' a'' w'' p1 p2 p3 p4 p5 p6
      simp only [frcAs_eq, frcH_eq] at p1
      exact hq G2 hG2 _ _ _ _ _ _ p1 p2 (q3.trans p3) (mkEnv_rel p4 p5 _ _ p6)
    · cases hev
  | rangeFunc f ps x y ihx ihy =>
    intro hl hc hR hJ G Q m h w a env K hst hp0 hi he hev hq
    simp only [evC] at hev
    split at hev
    · cases hev
    · rename_i hno
      have hno' : (X.rd || X.y.isSome) = false := by simpa using hno
      obtain rfl := hr1 (by simp at hno'; exact hno'.1)
      split at hev
      · rename_i S hS
        obtain ⟨vs', h', m', q1, q2, q3, q4, q5⟩ := loopIn_sound hst.gn hp0.1 hi he hev
        refine hR _ (by simp [rangesOf]) f ps x y rfl S hS (hst.gb hno') q3.1 q2 q5 he.dfr q4 q1 ?_
        intro G2 hG2 e avs h'' m'' a'' w'' p1 p2 p3 p4 p5 p6
        simp only [frcAs_eq, frcH_eq] at p1
        exact hq G2 hG2 _ _ _ _ _ _ p1 p2 (q3.trans p3) (mkEnv_rel p4 p5 _ _ p6)
      · cases hev
  | exit id => intro hl hc hR hJ G Q m h w a env K hst hp0 hi he hev hq; exact wpIn_exit (hq G (Sub.refl X G) (.exit id) _ _ _ _ _ hev hi (Pin.refl hp0.1) he)
  | scope b ih =>
    intro hl hc hR hJ G Q m h w a env K hst hp0 hi he hev hq
    simp only [evC] at hev
    split at hev
    · cases hev
    rename_i hrd
    obtain rfl := hr1 (by simpa using hrd)
    refine wpIn_wide.2 ?_
    have ihb : ∀ {Q : Exit → Act → World → Prop} {K : Xt → Env → Heap → Option Res}, evC P T X nt n0 LT b env h K = some r → After X G m n0 K r Q → b.wp P Q a w :=
      fun hev hq => wpIn_wide.1 (ih (fun b' hb => hl b' (by simpa [loopsOf] using hb)) (fun b' hb => hc b' (by simp [scopesOf, hb])) (fun b' hb => hR b' (by simpa [rangesOf] using hb)) (fun b' hb => hJ b' (by simpa [joinsOf] using hb)) hst hp0 hi he hev hq)
    by_cases hex : ∃ l S, labelIn b = some l ∧ LT (lkey l) = some S
    · obtain ⟨l, S, hlab, hS⟩ := hex
      obtain ⟨g, rest, hf, hg, h1, h2, h3, h4⟩ := hc b (by simp [scopesOf]) l S hlab hS
      refine passes_sound (G0 := G) (r := r) (m0 := m0) (m1 := m) (live := S.live) (out := S.out) (K := fun e vs' h' => frcAs (mkEnv nt (S.out e) vs') fun env => frcH h' fun h' => K e env h') hf hg h2 h3 h4 hst hp0 ?_ ?_
      · intro G2 hG2 e avs h'' m'' a'' w'' p1 p2 p3 p4 p5 p6 p7
        simp only [frcAs_eq, frcH_eq] at p1
        exact hq G2 hG2 _ _ _ _ _ _ p1 p2 p3 (mkEnv_rel p4 p5 _ _ p6)
      · refine ihb hev ?_
        intro G2 hG2 e env' h' m' a' w' hK hi' hp he'
        cases e with
        | normal => exact hq G2 hG2 .normal _ _ _ _ _ hK hi' hp he'
        | exit i => exact hq G2 hG2 (.exit i) _ _ _ _ _ hK hi' hp he'
        | ret => exact hq G2 hG2 .ret _ _ _ _ _ hK hi' hp he'
        | goto i =>
          simp only at hK
          split at hK
          · cases hK
          · rename_i hli
            have hil : l = i := Option.some.inj (hlab.symm.trans (Classical.not_not.1 hli))
            subst hil
            rw [hS] at hK
            obtain ⟨vs', h2', m2, q1, q2, q3, q4, q5⟩ := loopIn_sound (hst.sub hG2).gn hp.1 hi' he' hK
            obtain ⟨k, hn'⟩ := h1 _ _ _ _ q1
            exact ⟨rfl, k, G2, m2, h2', vs', hn', hG2, q2, hp.trans q3, q5, he'.dfr, q4⟩
    · refine wp_scope_straight (ihb hev ?_)
      intro G2 hG2 e env' h' m' a' w' hK hi' hp he'
      cases e with
      | normal => exact hq G2 hG2 .normal _ _ _ _ _ hK hi' hp he'
      | exit i => exact hq G2 hG2 (.exit i) _ _ _ _ _ hK hi' hp he'
      | ret => exact hq G2 hG2 .ret _ _ _ _ _ hK hi' hp he'
      | goto i =>
        simp only at hK
        split at hK
        · cases hK
        · rename_i hli
          split at hK
          · rename_i S' hS'
            exact (hex ⟨i, S', Classical.not_not.1 hli, hS'⟩).elim
          · cases hK
  | label l => intro hl hc hR hJ G Q m h w a env K hst hp0 hi he hev hq; exact wpIn_label (hq G (Sub.refl X G) .normal _ _ _ _ _ hev hi (Pin.refl hp0.1) he)
  | goto l => intro hl hc hR hJ G Q m h w a env K hst hp0 hi he hev hq; exact wpIn_goto (hq G (Sub.refl X G) (.goto l) _ _ _ _ _ hev hi (Pin.refl hp0.1) he)
  | ret => intro hl hc hR hJ G Q m h w a env K hst hp0 hi he hev hq; exact wpIn_ret (hq G (Sub.refl X G) .ret _ _ _ _ _ hev hi (Pin.refl hp0.1) he)
  | refuse s => intro hl hc hR hJ G Q m h w a env K hst hp0 hi he hev hq; simp only [evC] at hev; cases hev
theorem joinsOK_none {l : List Code} (h : ∀ n, X.jn n = none) : JoinsOK P T X nt n0 LT l := fun b _ S hS => by rw [h] at hS; cases hS
def resGet (a : Act) : ResultVar → Sem Value
  | .tmp t => pure (a.tmps.getD t undef)
  | .cell x t => do loadVar t (← asAddr (a.tmps.getD x undef))
theorem resVals_list {G G' : Ctx} {m : GM} {h : Heap} {w : World} {a : Act} {env : Env} (hi : Inv G m h w) (he : ERel G' m env a) : ∀ (l : List ResultVar) (vs : List TV), resVals P env h l = some vs →
    ∃ xs, TVs m vs xs ∧ (l.mapM (resGet a)).run P w = .ok xs w
  | [], vs, hv => by cases hv; exact ⟨[], trivial, by simp [List.mapM_nil]⟩
  | .tmp t :: l, vs, hv => by
    simp only [resVals] at hv
    split at hv
    · cases hv
    · rename_i v l' hne hx hl
      cases hv
      obtain ⟨xs, h1, h2⟩ := resVals_list hi he l _ hl
      refine ⟨a.tmps.getD t undef :: xs, ⟨?_, h1⟩, ?_⟩
      · have := he.val t
        rw [hx] at this
        rcases this with ht | ht
        · match v, ht, hne with
          | .lf .top, _, hne => exact (hne rfl).elim
        · exact ht
      · rw [List.mapM_cons]
        simp only [resGet, Sem.run_bind, Sem.run_pure, Result.andThen_ok, h2]
    · cases hv
  | .cell x t :: l, vs, hv => by
    simp only [resVals] at hv
    split at hv
    · rename_i id off hx
      split at hv
      · rename_i ob hob
        split at hv
        · rename_i es hes
          split at hv
          · rename_i v q hld hl
            cases hv
            obtain ⟨xs, h1, h2⟩ := resVals_list hi he l _ hl
            obtain ⟨g, b, hg, hb, hv'⟩ : ∃ g b, m[id]? = some g ∧ g.addr = some b ∧ a.tmps.getD x undef = .pointer (some (at_ b off)) := by
              have := he.val x
              rw [hx] at this
              exact this.resolve_left (fun h => h)
            obtain ⟨cs, hoc, hrd⟩ := hi.read hob hg hb
            obtain ⟨h3, h4⟩ := dropW_cells hes hoc
            obtain ⟨val, hval, hrun, _⟩ := ldE_run hld h4
            have := hrun b off w (fun j u hu => hrd w (Ext.refl w) (off + j) u (by rw [List.getElem?_drop] at hu; exact hu))
            refine ⟨val :: xs, ⟨hval, h1⟩, ?_⟩
            rw [List.mapM_cons]
            simp [resGet, Sem.run_bind, Result.andThen_ok, h2, hv', asAddr, this]
          · cases hv
        · cases hv
      · cases hv
    · cases hv
theorem results_of {fn : Func} {m : GM} {h : Heap} {w : World} {a : Act} {env : Env} {vs : List TV} {G G' : Ctx} (hi : Inv G m h w) (he : ERel G' m env a) (hv : resVals P env h fn.results.toList = some vs) :
    ∃ xs, TVs m vs xs ∧ (results fn a.tmps).run P w = .ok (if h : xs.toArray.size = 1 then xs.toArray[0] else .tuple xs.toArray) w := by
  obtain ⟨xs, h1, h2⟩ := resVals_list hi he _ _ hv
  refine ⟨xs, h1, ?_⟩
  have : results fn a.tmps = (do
      let ys ← fn.results.mapM (resGet a)
      pure (if h : ys.size = 1 then ys[0] else .tuple ys)) := by
    unfold results
    congr 2
  rw [this, Array.mapM_eq_mapM_toList]
  simp only [Sem.run_bind, map_eq_pure_bind, Sem.run_pure, Result.andThen_ok, h2]
theorem resRel_of {m : GM} {vs : List TV} {xs : List Value} (h : TVs m vs xs) : ResRel m vs (if h : xs.toArray.size = 1 then xs.toArray[0] else .tuple xs.toArray) := by
  match vs, xs, h with
  | [], [], h => exact ⟨#[], rfl, trivial⟩
  | [x], [y], h => exact h.1
  | x :: y :: r, a :: b :: s, h => exact ⟨_, by simp, h⟩
  | [x], _ :: _ :: _, h => exact h.2.elim
  | _ :: _ :: _, [y], h => exact h.2.elim
theorem eget_argEnv : ∀ (n : Nat) (vs : List TV) (i : Nat), eget (argEnv n vs) i = .top ∨ ∃ v, vs[i]? = some v ∧ eget (argEnv n vs) i = .tv v
  | 0, _, _ => .inl rfl
  | n + 1, [], 0 => .inl rfl
  | n + 1, [], i + 1 => by
    rcases eget_argEnv n [] i with h | ⟨v, h, _⟩
    · exact .inl h
    · simp at h
  | n + 1, v :: r, 0 => .inr ⟨v, rfl, rfl⟩
  | n + 1, v :: r, i + 1 => by
    rcases eget_argEnv n r i with h | ⟨v', h1, h2⟩
    · exact .inl h
    · exact .inr ⟨v', by simpa using h1, h2⟩
theorem argEnv_length : ∀ (n : Nat) (vs : List TV), (argEnv n vs).length = n
  | 0, _ => rfl
  | n + 1, [] => by simp [argEnv, argEnv_length n []]
  | n + 1, v :: r => by simp [argEnv, argEnv_length n r]
theorem TVs.get {m : GM} : ∀ {vs : List TV} {xs : List Value}, TVs m vs xs → ∀ {i : Nat} {v : TV}, vs[i]? = some v → ∃ x, xs[i]? = some x ∧ TVRel m v x
  | v :: vs, x :: xs, h, 0, _, hv => by simp only [List.getElem?_cons_zero, Option.some.injEq] at hv; subst hv; exact ⟨x, rfl, h.1⟩
  | v :: vs, x :: xs, h, i + 1, _, hv => by simpa using TVs.get h.2 (by simpa using hv)
  | [], [], _, _, _, hv => by simp at hv
  | [], _ :: _, h, _, _, _ => h.elim
  | _ :: _, [], h, _, _, _ => h.elim
theorem argEnv_rel {m : GM} {n : Nat} {vs : List TV} {xs : List Value} (h : TVs m vs xs) {G : Ctx} (hG : G.dfs = []) : ERel G m (argEnv n vs) { tmps := xs.toArray ++ Array.replicate (n - xs.toArray.size) undef, defers := [] } := by
  refine ⟨by rw [argEnv_length]; simp; omega, hG.symm, fun i => ?_⟩
  rcases eget_argEnv n vs i with h1 | ⟨v, h1, h2⟩
  · rw [h1]; exact .inl trivial
  · rw [h2]
    obtain ⟨x, hx, hr⟩ := h.get h1
    refine .inr ?_
    have hlt := (List.getElem?_eq_some_iff.1 hx).1
    simp only [Array.getD_eq_getD_getElem?]
    rw [Array.getElem?_append_left (by simpa using hlt)]
    simp only [List.getElem?_toArray, hx, Option.getD_some]
    exact hr
theorem Inv.turn {G : Ctx} {m : GM} {h : Heap} {w : World} (hi : Inv G m h w) {l : Nat} {o o' : Obj} (hl : w.heap[l]? = some o) (hc : o.isCells = false) (hs : G.w0.heap.size ≤ l)
    (hd : ∀ x ∈ G.gh, x.2.1 = l → hget h x.1 = none) : Inv G m h (w.putObj l o') := by
  have same : ∀ b, b ≠ l → (w.putObj l o').heap[b]? = w.heap[b]? := fun b hb => World.putObj_heap_other hb
  refine ⟨hi.len, fun id ob g h1 h2 => ?_, hi.own, hi.dist, hi.str.trans ⟨rfl, rfl, rfl⟩, ?_, fun b hb hO => ?_, hi.fz, fun x hx => ⟨(hi.gh x hx).1, fun ob ho => ?_⟩⟩
  · obtain ⟨q1, cs, q2, q3⟩ := hi.obs id ob g h1 h2
    refine ⟨q1, cs, q2, ?_⟩
    rcases q3 with q3 | ⟨b, blk, t, fr, p1, p2, p3⟩
    · exact .inl q3
    · refine .inr ⟨b, blk, t, fr, p1, ?_, p3⟩
      rw [same b.1 (fun e => ?_)]
      · exact p2
      · rw [e, hl] at p2
        rw [Option.some.inj p2] at hc
        cases hc
  · have := hi.size
    simp only [World.putObj, Array.size_setIfInBounds]
    exact this
  · rw [same b (by omega)]
    exact hi.frame b hb hO
  · obtain ⟨q1, q2⟩ := (hi.gh x hx).2 ob ho
    refine ⟨(same _ fun e => ?_).trans q1, q2⟩
    rw [hd x hx e] at ho
    cases ho
theorem leaves_marks {G : Ctx} {m : GM} {h : Heap} {fn : Func} {tmps : Array Value} {R : Ending → World → Prop} {n : Nat} (hgh : G.gh = [])
    (fin : ∀ w, Inv G m h w → ∃ v, (results fn tmps).run P w = .ok v w ∧ R (.returned v) w) :
    ∀ (ds : List Deferred) (w : World), Inv G m h w → ds.Pairwise (· ≠ ·) → (∀ d ∈ ds, ∃ D, d = { target := .collected D, args := #[] } ∧ w.heap[D]? = some (.deferred (some [])) ∧ G.w0.heap.size ≤ D) →
      LeavesInM Fence.wide n P fn tmps R ds .returning w
  | [], w, hi, _, _ => fin w hi
  | d :: ds, w, hi, hnd, hds => by
    obtain ⟨D, rfl, hD, hs⟩ := hds d (by simp)
    refine ⟨by simp, .inl ⟨D, _, rfl, run_takeDeferred hD, ?_⟩⟩
    refine leaves_marks hgh fin ds _ (hi.turn hD rfl hs (by rw [hgh]; intro x hx; cases hx)) (List.pairwise_cons.1 hnd).2 fun d' hd' => ?_
    obtain ⟨D', rfl, hD', hs'⟩ := hds d' (by simp [hd'])
    refine ⟨D', rfl, ?_, hs'⟩
    rw [World.putObj_heap_other (fun e => ?_)]
    · exact hD'
    · exact (List.pairwise_cons.1 hnd).1 _ hd' (by rw [e])
theorem evBody_sound (hX : X.rd = false) (hXy : X.y = none) (hm : P.follows .mixedOrders = true) (hT : SoundT P T) {f : FuncId} {fn : Func} {c : Code} (hf : P.funcs[f]? = some fn) (hb : fn.body = some c) (hl : LoopsOK P T X fn.ntmps n0 LT (loopsOf c)) (hsc : ScopesOK P T X fn.ntmps n0 LT (scopesOf c)) (hrg : RangesOK P X fn.ntmps n0 LT (rangesOf c)) (hJ : JoinsOK P T X fn.ntmps n0 LT (joinsOf c))
    {mv : List Nat} {kn : Bool} {vs : List TV} {h : Heap} (hn0 : h.length = n0) {K : List TV → Heap → Option Res} {r : Res} (hev : evBody P T X fn.ntmps n0 LT mv kn c fn.results.toList vs h K = some r) {G : Ctx} {m : GM} {w : World} {xs : List Value}
    (hgd : G.dfs = []) (hgh : G.gh = []) (hi : Inv G m h w) (hx : TVs m vs xs) :
    Calls P f xs.toArray w fun e w' => ∃ rs h', K rs h' = some r ∧ ∃ v t, e = .returned v ∧ ResRel (m ++ t) rs v ∧ Inv G (m ++ t) h' w' := by
  refine (callsIn_wide (n := 0)).1 (callsIn_of_wp_marks hf hb trivial ?_)
  have hlen : m.length = n0 := hi.len.trans hn0
  unfold evBody at hev
  rw [frcAs_eq] at hev
  have hst : Std P X n0 m G := ⟨fun y hy => (by rw [hXy] at hy; cases hy), fun x hx => (by rw [hgh] at hx; cases hx), fun _ => hgh⟩
  refine evC_wpJ (ro := none) (n := 0) (fun _ => rfl) (fun _ => rfl) hm hT c hl hsc hrg hJ hst (Pin.refl (Nat.le_of_eq hlen.symm)) hi (argEnv_rel hx hgd) hev ?_
  intro G2 hG2 e env' h' m' a' w' hK hi' hp he'
  have hsub : SubR G G2 := by
    rcases hG2 with rfl | ⟨_, h0⟩
    · exact SubR.refl _
    · exact h0
  have fin : ∀ {q : Option (List TV)}, resVals P env' h' fn.results.toList = q → (match q with | some vs => normF kn n0 mv vs h' K | none => none) = some r →
      LeavesInM Fence.wide 0 P fn a'.tmps (fun e w' => ∃ rs h', K rs h' = some r ∧ ∃ v' t, e = .returned v' ∧ ResRel (m ++ t) rs v' ∧ Inv G (m ++ t) h' w') a'.defers .returning w' := by
    intro q hq hk
    cases q with
    | none => cases hk
    | some vs1 =>
      rw [he'.dfr]
      refine leaves_marks hgh (fun w2 hi2 => ?_) G2.dfs w' (hsub.inv hi') G2.nd fun d hd => ?_
      · obtain ⟨xs1, h1, h2⟩ := results_of (fn := fn) hi2 he' hq
        refine ⟨_, h2, ?_⟩
        simp only [normF_eq] at hk
        obtain ⟨rs, h3, m3, q1, q2, q3, q4, q5⟩ := normVs_sound hi2 hp.1 (by rw [hgh]; intro x hx; cases hx) h1 hk
        have hpre : m3 = m ++ m3.drop n0 := by
          apply List.ext_getElem?
          intro i
          by_cases hlt : i < n0
          · rw [List.getElem?_append_left (by omega), q5 i hlt, hp.2 i hlt]
          · rw [List.getElem?_append_right (by omega), List.getElem?_drop, hlen]
            congr 1; omega
        refine ⟨rs, h3, q1, _, m3.drop n0, rfl, ?_, ?_⟩
        · rw [← hpre]; exact resRel_of q3
        · rw [← hpre]; exact q2
      · obtain ⟨D, rfl, hD, hO⟩ := G2.hd d hd
        refine ⟨D, rfl, ?_, ?_⟩
        · rw [hi'.frame D (Array.getElem?_eq_some_iff.1 hD).1 hO]; exact hD
        · rcases hsub.dfs _ hd with h0 | ⟨D', h0, h1⟩
          · rw [hgd] at h0; cases h0
          · injection h0 with h0 _
            injection h0 with h0
            rw [h0]; exact h1
  cases e with
  | normal => exact fin rfl hK
  | ret => exact fin rfl hK
  | exit i => cases hK
  | goto i => cases hK
end
end
section
variable [FZ]
inductive SL where
  | top
  | int (k : IntKind)
  | bool
  | str
  | nilp
  | nils (k : Option EK)
  | ptr (id off : Nat)
  | pix (id off o2 : Nat)
  | full (id : Nat)
  | slice (id off : Nat)
  | sliceC (id off : Nat)
  | seq (k : EK) (n : Nat)
  | fn (f : Nat)
  | sl (q : SK)
  | clo (f : Nat) (ids : List Nat)
  | yld (id : Nat)
  | nilf
  | flt (k : FloatKind)
  | nan (k : FloatKind)
@[reducible] def SL.den : SL → Type
  | .int _ => Int
  | .bool => Bool
  | .str => ByteArray
  | .pix _ _ _ => Nat
  | .slice _ _ => Nat × Nat
  | .sliceC _ _ => Nat × Nat × Nat
  | .seq k _ => List k.den
  | .sl q => Sl q
  | .flt _ => Nat
  | _ => Unit
def SL.enc : (s : SL) → s.den → LV
  | .top, _ => .top
  | .int k, n => .int k n
  | .bool, b => .bool b
  | .str, s => .str s
  | .nilp, _ => .nilp
  | .nils k, _ => .nils k
  | .ptr id off, _ => .ptr id off
  | .pix id off o2, i => .pix id off i o2
  | .full id, _ => .full id
  | .slice id off, d => .slice id off d.1 d.2 none
  | .sliceC id off, d => .slice id off d.1 d.2.1 (some d.2.2)
  | .seq k n, l => .seq k n l
  | .fn f, _ => .fn f
  | .sl q, x => .sl q x
  | .clo f ids, _ => .clo f ids
  | .yld id, _ => .yld id
  | .nilf, _ => .nilf
  | .flt k, b => .flt k b
  | .nan k, _ => .nan k
def SL.dec : (s : SL) → LV → Option s.den
  | .top, x => match x with | .top => some () | _ => none
  | .int k, x => match x with | .int k' n => if k' = k then some n else none | _ => none
  | .bool, x => match x with | .bool b => some b | _ => none
  | .str, x => match x with | .str s => some s | _ => none
  | .nilp, x => match x with | .nilp => some () | _ => none
  | .nils k, x => match x with | .nils k' => if k' = k then some () else none | _ => none
  | .ptr id off, x => match x with | .ptr id' off' => if id' = id ∧ off' = off then some () else none | _ => none
  | .pix id off o2, x => match x with | .pix id' off' i o2' => if id' = id ∧ off' = off ∧ o2' = o2 then some i else none | _ => none
  | .full id, x => match x with | .full id' => if id' = id then some () else none | _ => none
  | .slice id off, x => match x with | .slice id' off' lo len none => if id' = id ∧ off' = off then some (lo, len) else none | _ => none
  | .sliceC id off, x => match x with | .slice id' off' lo len (some c) => if id' = id ∧ off' = off then some (lo, len, c) else none | _ => none
  | .seq k n, x => match x with | .seq k' n' l => if h : k' = k then (if n' = n then some (castL h l) else none) else none | _ => none
  | .fn f, x => match x with | .fn f' => if f' = f then some () else none | _ => none
  | .sl q, x => match x with | .sl q' y => if h : q' = q then some (castS h y) else none | _ => none
  | .clo f ids, x => match x with | .clo f' ids' => if f' = f ∧ ids' = ids then some () else none | _ => none
  | .yld id, x => match x with | .yld id' => if id' = id then some () else none | _ => none
  | .nilf, x => match x with | .nilf => some () | _ => none
  | .flt k, x => match x with | .flt k' n => if k' = k then some n else none | _ => none
  | .nan k, x => match x with | .nan k' => if k' = k then some () else none | _ => none
theorem SL.dec_enc : ∀ (s : SL) (x : LV) (d : s.den), s.dec x = some d → x = s.enc d := by
  intro s x d h
  cases s <;> simp only [SL.dec] at h
  case top => split at h <;> first | rfl | cases h
  case int k =>
    split at h
    · rename_i k' n
      split at h
      · rename_i hk; subst hk; cases h; rfl
      · cases h
    · cases h
  case bool => split at h <;> first | (cases h; rfl) | cases h
  case str => split at h <;> first | (cases h; rfl) | cases h
  case nilp => split at h <;> first | rfl | cases h
  case nils k =>
    split at h
    · split at h
      · rename_i hk; subst hk; rfl
      · cases h
    · cases h
  case ptr id off =>
    split at h
    · split at h
      · rename_i hk; obtain ⟨rfl, rfl⟩ := hk; rfl
      · cases h
    · cases h
  case pix id off o2 =>
    split at h
    · split at h
      · rename_i hk; obtain ⟨rfl, rfl, rfl⟩ := hk; cases h; rfl
      · cases h
    · cases h
  case full id =>
    split at h
    · split at h
      · rename_i hk; subst hk; rfl
      · cases h
    · cases h
  case fn f =>
    split at h
    · split at h
      · rename_i hk; subst hk; rfl
      · cases h
    · cases h
  case sl q =>
    split at h
    · split at h
      · rename_i hk; subst hk; cases h; rfl
      · cases h
    · cases h
  case clo f ids =>
    split at h
    · split at h
      · rename_i hk; obtain ⟨rfl, rfl⟩ := hk; rfl
      · cases h
    · cases h
  case yld id =>
    split at h
    · split at h
      · rename_i hk; subst hk; rfl
      · cases h
    · cases h
  case nilf => split at h <;> first | rfl | cases h
  case nan k =>
    split at h
    · rename_i k'
      split at h
      · rename_i hk; subst hk; rfl
      · cases h
    · cases h
  case flt k =>
    split at h
    · rename_i k' n
      split at h
      · rename_i hk; subst hk; cases h; rfl
      · cases h
    · cases h
  case slice id off =>
    split at h
    · split at h
      · rename_i hk; obtain ⟨rfl, rfl⟩ := hk; cases h; rfl
      · cases h
    · cases h
  case sliceC id off =>
    split at h
    · split at h
      · rename_i hk; obtain ⟨rfl, rfl⟩ := hk; cases h; rfl
      · cases h
    · cases h
  case seq k n =>
    split at h
    · split at h
      · rename_i hk
        subst hk
        split at h
        · rename_i hn; subst hn; cases h; rfl
        · cases h
      · cases h
    · cases h
@[reducible] def denL : List SL → Type
  | [] => Unit
  | s :: r => s.den × denL r
def encL : (l : List SL) → denL l → List LV
  | [], _ => []
  | s :: r, d => s.enc d.1 :: encL r d.2
def decL : (l : List SL) → List LV → Option (denL l)
  | [], x => match x with | [] => some () | _ => none
  | s :: r, x => match x with
    | y :: q => match s.dec y, decL r q with
      | some a, some b => some (a, b)
      | _, _ => none
    | [] => none
theorem decL_enc : ∀ (l : List SL) (x : List LV) (d : denL l), decL l x = some d → x = encL l d
  | [], x, d, h => by
    simp only [decL] at h
    split at h
    · rfl
    · cases h
  | s :: r, x, d, h => by
    simp only [decL] at h
    split at h
    · split at h
      · rename_i ha hb
        cases h
        rw [SL.dec_enc _ _ _ ha, decL_enc _ _ _ hb]; rfl
      · cases h
    · cases h
inductive ST where
  | lf (s : SL)
  | agg (l : List SL)
@[reducible] def ST.den : ST → Type
  | .lf s => s.den
  | .agg l => denL l
def ST.enc : (s : ST) → s.den → TV
  | .lf s, d => .lf (s.enc d)
  | .agg l, d => .agg (encL l d)
def ST.dec : (s : ST) → TV → Option s.den
  | .lf s, x => match x with | .lf y => s.dec y | _ => none
  | .agg l, x => match x with | .agg y => decL l y | _ => none
theorem ST.dec_enc : ∀ (s : ST) (x : TV) (d : s.den), s.dec x = some d → x = s.enc d
  | .lf s, x, d, h => by
    simp only [ST.dec] at h
    split at h
    · rw [SL.dec_enc _ _ _ h]; rfl
    · cases h
  | .agg l, x, d, h => by
    simp only [ST.dec] at h
    split at h
    · rw [decL_enc _ _ _ h]; rfl
    · cases h
@[reducible] def denT : List ST → Type
  | [] => Unit
  | s :: r => s.den × denT r
def encT : (l : List ST) → denT l → List TV
  | [], _ => []
  | s :: r, d => s.enc d.1 :: encT r d.2
def decT : (l : List ST) → List TV → Option (denT l)
  | [], x => match x with | [] => some () | _ => none
  | s :: r, x => match x with
    | y :: q => match s.dec y, decT r q with
      | some a, some b => some (a, b)
      | _, _ => none
    | [] => none
theorem decT_enc : ∀ (l : List ST) (x : List TV) (d : denT l), decT l x = some d → x = encT l d
  | [], x, d, h => by
    simp only [decT] at h
    split at h
    · rfl
    · cases h
  | s :: r, x, d, h => by
    simp only [decT] at h
    split at h
    · split at h
      · rename_i ha hb
        cases h
        rw [ST.dec_enc _ _ _ ha, decT_enc _ _ _ hb]; rfl
      · cases h
    · cases h
structure SO where
  ro : Option Bool
  es : List SL
@[reducible] def denRo : Option Bool → Type
  | none => Bool
  | some _ => Unit
def encRo : (o : Option Bool) → denRo o → Bool
  | none, b => b
  | some b, _ => b
def decRo : (o : Option Bool) → Bool → Option (denRo o)
  | none, b => some b
  | some true, b => match b with | true => some () | false => none
  | some false, b => match b with | true => none | false => some ()
theorem decRo_enc : ∀ (o : Option Bool) (x : Bool) (d : denRo o), decRo o x = some d → x = encRo o d
  | none, x, d, h => by cases h; rfl
  | some true, x, d, h => by cases x <;> first | rfl | (simp [decRo] at h)
  | some false, x, d, h => by cases x <;> first | rfl | (simp [decRo] at h)
@[reducible] def denH : List (Option SO) → Type
  | [] => Unit
  | none :: r => Unit × denH r
  | some o :: r => (denRo o.ro × denL o.es) × denH r
def encH : (l : List (Option SO)) → denH l → Heap
  | [], _ => []
  | none :: r, d => none :: encH r d.2
  | some o :: r, d => some ⟨encRo o.ro d.1.1, encL o.es d.1.2⟩ :: encH r d.2
def decH : (l : List (Option SO)) → Heap → Option (denH l)
  | [], x => match x with | [] => some () | _ => none
  | none :: r, x => match x with
    | none :: q => match decH r q with
      | some b => some ((), b)
      | none => none
    | _ => none
  | some o :: r, x => match x with
    | some y :: q => match decRo o.ro y.ro, decL o.es y.es, decH r q with
      | some a, some b, some c => some ((a, b), c)
      | _, _, _ => none
    | _ => none
theorem decH_enc : ∀ (l : List (Option SO)) (x : Heap) (d : denH l), decH l x = some d → x = encH l d
  | [], x, d, h => by
    simp only [decH] at h
    split at h
    · rfl
    · cases h
  | none :: r, x, d, h => by
    simp only [decH] at h
    split at h
    · split at h
      · rename_i hb
        cases h
        rw [decH_enc _ _ _ hb]; rfl
      · cases h
    · cases h
  | some o :: r, x, d, h => by
    simp only [decH] at h
    split at h
    · split at h
      · rename_i ha hb hc
        cases h
        rw [decH_enc _ _ _ hc]
        have h1 := decRo_enc _ _ _ ha
        have h2 := decL_enc _ _ _ hb
        simp only [encH, ← h1, ← h2]
      · cases h
    · cases h
structure Sh where
  vs : List ST
  h : List (Option SO)
@[reducible] def Sh.den (s : Sh) : Type := denT s.vs × denH s.h
theorem encH_length : ∀ (l : List (Option SO)) (d : denH l), (encH l d).length = l.length
  | [], _ => rfl
  | none :: r, d => by simp [encH, encH_length r]
  | some o :: r, d => by simp [encH, encH_length r]
abbrev KF := List TV → Heap → Option Res
abbrev KL := Xt → List AV → Heap → Option Res
def mkS (s : Sh) (l : s.den → KF → Option Res) (other : Summ) : Summ := fun vs h K =>
  match decT s.vs vs, decH s.h h with
  | some a, some b => l (a, b) K
  | _, _ => other vs h K
def noS : Summ := fun _ _ _ => none
def mkG (s : Sh) (live : List Nat) (out : Xt → List Nat) (l : s.den → KL → Option Res) (mv : List Nat := []) : LoopS where
  mv := mv
  live := live
  out := out
  run := fun vs h K => match decT s.vs vs, decH s.h h with
    | some a, some b => l (a, b) K
    | _, _ => none
section
variable {P : Program} {T : FuncId → Option Summ} {X : Xtra} {nt n0 : Nat} {LT : Nat → Option LoopS}
theorem mkG_run {s : Sh} {live : List Nat} {out : Xt → List Nat} {l : s.den → KL → Option Res} {mv : List Nat} {vs : List TV} {h : Heap} {K : KL} {r : Res} (he : (mkG s live out l mv).run vs h K = some r) :
    ∃ d : s.den, vs = encT s.vs d.1 ∧ h = encH s.h d.2 ∧ l d K = some r := by
  change (match decT s.vs vs, decH s.h h with | some a, some b => l (a, b) K | _, _ => none) = some r at he
  split at he
  · rename_i a b ha hb
    exact ⟨(a, b), decT_enc _ _ _ ha, decH_enc _ _ _ hb, he⟩
  · cases he
theorem loopOK_of {mv : List Nat} {s : Sh} {live : List Nat} {out : Xt → List Nat} {b : Code} (l : Nat → s.den → KL → Option Res) (F : Nat) (h0 : ∀ d K, l 0 d K = none)
    (hs : ∀ k d K, l (k + 1) d K = roundOf P T X nt n0 LT (mkG s live out (l k) mv) b (encT s.vs d.1) (encH s.h d.2) K) :
    LoopOK P T X nt n0 LT (mkG s live out (l F) mv) b := by
  refine ⟨fun k => mkG s live out (l k) mv, fun k => ⟨rfl, rfl⟩, fun vs h K r he => ⟨F, he⟩, fun vs h K => ?_, fun k vs h K r he => ?_⟩
  · cases hq : (mkG s live out (l 0) mv).run vs h K with
    | none => rfl
    | some r =>
      obtain ⟨d, _, _, h3⟩ := mkG_run hq
      rw [h0] at h3; cases h3
  · obtain ⟨d, rfl, rfl, h3⟩ := mkG_run he
    rw [hs] at h3
    exact h3
theorem loopsOK_nil : LoopsOK P T X nt n0 LT [] := fun b hb => by cases hb
theorem loopsOK_cons {b : Code} {l : List Code} {S : LoopS} (hS : LT (firstRegion b) = some S) (h : LoopOK P T X nt n0 LT S b) (hl : LoopsOK P T X nt n0 LT l) : LoopsOK P T X nt n0 LT (b :: l) := by
  intro c hc S' hS'
  rcases List.mem_cons.1 hc with rfl | hc
  · rw [hS] at hS'; cases hS'; exact h
  · exact hl c hc S' hS'
theorem rangesOK_nil : RangesOK P X nt n0 LT [] := fun b hb => by cases hb
theorem scopesOK_nil : ScopesOK P T X nt n0 LT [] := fun b hb => by cases hb
theorem scopesOK_cons {b : Code} {l : List Code} {i : Nat} {S : LoopS} (hi : labelIn b = some i) (hS : LT (lkey i) = some S) (h : LabelOK P T X nt n0 LT S i b) (hl : ScopesOK P T X nt n0 LT l) : ScopesOK P T X nt n0 LT (b :: l) := by
  intro c hc j S' hj hS'
  rcases List.mem_cons.1 hc with rfl | hc
  · rw [hi] at hj; cases hj
    rw [hS] at hS'; cases hS'; exact h
  · exact hl c hc j S' hj hS'
theorem labelOK_ofJ (hX : X.rd = false) (hm : P.follows .mixedOrders = true) (hT : SoundT P T) {mv : List Nat} {s : Sh} {live : List Nat} {out : Xt → List Nat} {b rest : Code} {i : Nat} (l : Nat → s.den → KL → Option Res) (F : Nat)
    (hf : findLabel b i = some rest) (h0 : ∀ d K, l 0 d K = none)
    (hs : ∀ k d K, l (k + 1) d K = passOf P T X nt n0 LT (mkG s live out (l k) mv) i rest (encT s.vs d.1) (encH s.h d.2) K)
    (hl : LoopsOK P T X nt n0 LT (loopsOf rest)) (hc : ScopesOK P T X nt n0 LT (scopesOf rest)) (hr : RangesOK P X nt n0 LT (rangesOf rest)) (hJ : JoinsOK P T X nt n0 LT (joinsOf rest)) :
    LabelOK P T X nt n0 LT (mkG s live out (l F) mv) i b := by
  refine ⟨fun k => mkG s live out (l k) mv, rest, hf, fun k => ⟨rfl, rfl⟩, fun vs h K r he => ⟨F, he⟩, fun vs h K => ?_, fun k vs h K r he => ?_, fun h1 h2 h3 h4 h5 h6 => wpIn_wide.1 (evC_wpJ (ro := none) (n := 0) (fun _ => rfl) (fun _ => rfl) hm hT rest hl hc hr hJ h1 h2 h3 h4 h5 h6)⟩
  · cases hq : (mkG s live out (l 0) mv).run vs h K with
    | none => rfl
    | some r =>
      obtain ⟨d, _, _, h3⟩ := mkG_run hq
      rw [h0] at h3; cases h3
  · obtain ⟨d, rfl, rfl, h3⟩ := mkG_run he
    rw [hs] at h3
    exact h3
theorem labelOK_of (hX : X.rd = false) (hm : P.follows .mixedOrders = true) (hT : SoundT P T) {mv : List Nat} {s : Sh} {live : List Nat} {out : Xt → List Nat} {b rest : Code} {i : Nat} (l : Nat → s.den → KL → Option Res) (F : Nat)
    (hf : findLabel b i = some rest) (h0 : ∀ d K, l 0 d K = none)
    (hs : ∀ k d K, l (k + 1) d K = passOf P T X nt n0 LT (mkG s live out (l k) mv) i rest (encT s.vs d.1) (encH s.h d.2) K)
    (hl : LoopsOK P T X nt n0 LT (loopsOf rest)) (hc : ScopesOK P T X nt n0 LT (scopesOf rest)) (hr : RangesOK P X nt n0 LT (rangesOf rest)) (hjn : ∀ n, X.jn n = none := by intro n; rfl) :
    LabelOK P T X nt n0 LT (mkG s live out (l F) mv) i b := labelOK_ofJ hX hm hT l F hf h0 hs hl hc hr (joinsOK_none hjn)
theorem noS_sound {f : FuncId} (he : ∀ args w, (callFunc f args).run P w = .ok (.enter f args) w) : SoundFn P f noS := ⟨he, fun vs h K r hev => by cases hev⟩
theorem enter_of {f : FuncId} {fn : Func} (hf : P.funcs[f]? = some fn) (hname : (fn.name == "runtime.NumGoroutine") = false) (hb : fn.body.isSome = true) (args : Array Value) (w : World) :
    (callFunc f args).run P w = .ok (.enter f args) w := by
  obtain ⟨c, hc⟩ := Option.isSome_iff_exists.1 hb
  have h1 : fn.name ≠ "runtime.NumGoroutine" := by simpa using hname
  simp [callFunc, hf, h1, hc]
theorem soundFn_ofJ (hX : X.rd = false) (hXy : X.y = none) (hm : P.follows .mixedOrders = true) (hT : SoundT P T) {f : FuncId} {fn : Func} {c : Code} (hf : P.funcs[f]? = some fn) (hb : fn.body = some c) {mv : List Nat} {kn : Bool} {s : Sh} {l : s.den → KF → Option Res} {other : Summ}
    (ho : SoundFn P f other) (hl : LoopsOK P T X fn.ntmps s.h.length LT (loopsOf c)) (hsc : ScopesOK P T X fn.ntmps s.h.length LT (scopesOf c)) (hrg : RangesOK P X fn.ntmps s.h.length LT (rangesOf c)) (hJ : JoinsOK P T X fn.ntmps s.h.length LT (joinsOf c))
    (hev : ∀ d K, evBody P T X fn.ntmps s.h.length LT mv kn c fn.results.toList (encT s.vs d.1) (encH s.h d.2) K = l d K) : SoundFn P f (mkS s l other) := by
  refine ⟨ho.enter, fun vs h K r he => ?_⟩
  unfold mkS at he
  split at he
  · rename_i a b ha hb'
    have h1 := decT_enc _ _ _ ha
    have h2 := decH_enc _ _ _ hb'
    subst h1
    subst h2
    rw [← hev] at he
    intro G m w cvs hw hgd hgh hi hx
    exact evBody_sound hX hXy hm hT hf hb hl hsc hrg hJ (encH_length _ _) he hgd hgh hi hx
  · exact ho.ok vs h K r he
theorem soundFn_of (hX : X.rd = false) (hXy : X.y = none) (hm : P.follows .mixedOrders = true) (hT : SoundT P T) {f : FuncId} {fn : Func} {c : Code} (hf : P.funcs[f]? = some fn) (hb : fn.body = some c) {mv : List Nat} {kn : Bool} {s : Sh} {l : s.den → KF → Option Res} {other : Summ}
    (ho : SoundFn P f other) (hl : LoopsOK P T X fn.ntmps s.h.length LT (loopsOf c)) (hsc : ScopesOK P T X fn.ntmps s.h.length LT (scopesOf c)) (hrg : RangesOK P X fn.ntmps s.h.length LT (rangesOf c))
    (hev : ∀ d K, evBody P T X fn.ntmps s.h.length LT mv kn c fn.results.toList (encT s.vs d.1) (encH s.h d.2) K = l d K) (hjn : ∀ n, X.jn n = none := by intro n; rfl) : SoundFn P f (mkS s l other) :=
  soundFn_ofJ hX hXy hm hT hf hb ho hl hsc hrg (joinsOK_none hjn) hev
abbrev xw (l : List Nat) : Xtra := ⟨l, false, none, noJn⟩
def tab : List (Nat × Summ) → FuncId → Option Summ
  | [], _ => none
  | (g, S) :: r, f => if f = g then some S else tab r f
theorem tab_nil : SoundT P (tab []) := fun f S h => by cases h
theorem tab_cons {g : Nat} {S : Summ} {r : List (Nat × Summ)} (h : SoundFn P g S) (hr : SoundT P (tab r)) : SoundT P (tab ((g, S) :: r)) := fun f S' h' => by
  simp only [tab] at h'
  split at h'
  · rename_i hf; subst hf; cases h'; exact h
  · exact hr f S' h'
def outT : List (Xt × List Nat) → Xt → List Nat
  | [], _ => []
  | (e, l) :: r, x => if x = e then l else outT r x
def ltab : List (Nat × LoopS) → Nat → Option LoopS
  | [], _ => none
  | (g, S) :: r, f => if f = g then some S else ltab r f
def cL : Code → Code
  | .seq a _ => a
  | c => c
def cR : Code → Code
  | .seq _ b => b
  | c => c
def cB : Code → Code
  | .block _ a => a
  | .loop a => a
  | .scope a => a
  | c => c
def bodyOf (f : Func) : Code := match f.body with | some c => c | none => .skip
def isTrueK : KF := fun rs _ => match rs with
  | [.lf (.bool b)] => cond b (some ([], [])) none
  | _ => none
theorem row_true {f : FuncId} {S : Summ} (hs : SoundFn P f S) {vs : List TV} {h : Heap} (he : S vs h isTrueK = some ([], [])) {m : GM} {w : World} {cvs : List Value} (hi : Inv (Ctx.of w fun _ => False) m h w) (hx : TVs m vs cvs) :
    Calls P f cvs.toArray w fun e w' => e = .returned (.bool true) ∧ Ext w w' := by
  refine (hs.ok vs h _ _ he (Ctx.of w fun _ => False) m w cvs rfl rfl rfl hi hx).mono ?_
  rintro e w' ⟨rs, h', hK, v, t, rfl, hr, hi'⟩
  refine ⟨?_, hi'.str, hi'.size, fun b hb => hi'.frame b hb (fun h => h)⟩
  unfold isTrueK at hK
  split at hK
  · rename_i b
    cases b with
    | false => cases hK
    | true =>
      have : v = .bool true := hr
      rw [this]
  · cases hK
end
end
section
variable [FZ]
variable {P : Program}
section
variable {G : Ctx} {m : GM} {h : Heap} {w w' : World}
theorem SlotsRel.tmps {m : GM} {a a' : Act} (ha : a'.tmps = a.tmps) : ∀ {ss : List Nat} {vs : List AV}, SlotsRel m a ss vs → SlotsRel m a' ss vs
  | [], vs, _ => by cases vs <;> trivial
  | s :: ss, [], _ => trivial
  | s :: ss, v :: vs, h => ⟨by rw [ha]; exact h.1, SlotsRel.tmps ha h.2⟩
end
section
variable {T : FuncId → Option Summ} {X : Xtra} {nt n0 : Nat} {LT : Nat → Option LoopS}
end
end
end Go.Proofs.Ytjhpadklfeipaaa.Ev
end
section
namespace Go.Proofs.Ytjhpadklfeipaaa.Ev
open Go
set_option linter.unusedVariables false
set_option linter.unusedSectionVars false
section
abbrev En (P : Program) (f : FuncId) : Prop := ∀ args w, (callFunc f args).run P w = .ok (.enter f args) w
variable [FZ]
section
variable {P : Program} {T : FuncId → Option Summ} {X : Xtra} {nt n0 : Nat} {LT : Nat → Option LoopS} {c : Code}
theorem lnil (h : loopsOf c = [] := by kernel_rfl) : LoopsOK P T X nt n0 LT (loopsOf c) := by rw [h]; exact loopsOK_nil
theorem snil (h : scopesOf c = [] := by kernel_rfl) : ScopesOK P T X nt n0 LT (scopesOf c) := by rw [h]; exact scopesOK_nil
theorem rnil (h : rangesOf c = [] := by kernel_rfl) : RangesOK P X nt n0 LT (rangesOf c) := by rw [h]; exact rangesOK_nil
theorem sOf {P : Program} {T : FuncId → Option Summ} {X : Xtra} {LT : Nat → Option LoopS} (hT : SoundT P T) {f : FuncId} {fn : Func} {c : Code} {mv : List Nat} {kn : Bool} {s : Sh} {l : s.den → KF → Option Res} {other : Summ}
    (ho : SoundFn P f other) (hl : LoopsOK P T X fn.ntmps s.h.length LT (loopsOf c)) (hsc : ScopesOK P T X fn.ntmps s.h.length LT (scopesOf c)) (hrg : RangesOK P X fn.ntmps s.h.length LT (rangesOf c))
    (hev : ∀ d K, evBody P T X fn.ntmps s.h.length LT mv kn c fn.results.toList (encT s.vs d.1) (encH s.h d.2) K = l d K) (hX : X.rd = false := by rfl) (hXy : X.y = none := by rfl) (hm : P.follows .mixedOrders = true := by kernel_rfl) (hf : P.funcs[f]? = some fn := by kernel_rfl) (hb : fn.body = some c := by kernel_rfl)
    (hjn : ∀ n, X.jn n = none := by intro n; rfl) : SoundFn P f (mkS s l other) :=
  soundFn_of hX hXy hm hT hf hb ho hl hsc hrg hev hjn
theorem enO {P : Program} {f : FuncId} {fn : Func} (hf : P.funcs[f]? = some fn := by kernel_rfl) (hname : (fn.name == "runtime.NumGoroutine") = false := by kernel_rfl) (hb : fn.body.isSome = true := by kernel_rfl) : En P f := enter_of hf hname hb
end
abbrev So (P : Program) (f : FuncId) (S : Nat → Summ → Summ) : Prop := ∀ (F : Nat) (o : Summ), SoundFn P f o → SoundFn P f (S F o)
@[reducible] noncomputable def EB (P : Program) (T : FuncId → Option Summ) (X : Xtra) (nt n0 : Nat) (LT : Nat → Option LoopS) (mv : List Nat) (kn : Bool) (fn : Func) (s : Sh) (d : s.den) (K : KF) : Option Res :=
  evBody P T X nt n0 LT mv kn (bodyOf fn) fn.results.toList (encT s.vs d.1) (encH s.h d.2) K
end
end Go.Proofs.Ytjhpadklfeipaaa.Ev
end
section
namespace Go.Proofs.Ytjhpadklfeipaaa.X
open Go Go.Proofs.Ytjhpadklfeipaaa.Ev Go.Proofs
set_option linter.unusedVariables false
set_option linter.unusedSectionVars false
section
noncomputable def f41_1 {β : Type} (F : Nat) (a1 a2 a3 : Int) (K0 : Bool → Option β) : Option β := cond (decide (a1 ≥ a2)) (K0 (decide (a1 ≤ a3))) (K0 false)
variable [FZ]
def sh41_1 : Sh := ⟨[.lf (.int .i64), .lf (.int .i64), .lf (.int .i64)], []⟩
abbrev Y41_1 := Int → Int → Int → (Bool → Option Res) → Option Res
noncomputable def A41_1 (g : Y41_1) (d : sh41_1.den) (K : KF) : Option Res := g d.1.1 d.1.2.1 d.1.2.2.1 (fun y0 => K [.lf (.bool y0)] [])
noncomputable def S41_1 (F : Nat) (o : Summ) : Summ := mkS sh41_1 (fun d K => A41_1 (f41_1 F) d K) o
noncomputable def code41 : Code := bodyOf Try.f41
theorem enter41 : En Try.prog 41 := enO (fn := Try.f41)
noncomputable def T41_1 (F : Nat) : FuncId → Option Summ := tab []
noncomputable def LT41_1 (F : Nat) : Nat → Option LoopS := ltab []
theorem E41_1 (F : Nat) (d : sh41_1.den) (K : KF) : EB Try.prog (T41_1 F) (xw []) 15 0 (LT41_1 F) [] false Try.f41 sh41_1 d K = A41_1 (f41_1 F) d K := by delta A41_1 f41_1 T41_1 LT41_1;   as_aux_lemma => kernel_rfl
theorem S41_1_ok : So Try.prog 41 S41_1 :=
  fun F o ho => sOf (fn := Try.f41) (c := code41) tab_nil ho lnil snil rnil (E41_1 F)
end
section
noncomputable def f31_1 {β : Type} (F : Nat) (a1 a2 a3 a4 : Int) (K0 : Bool → Option β) : Option β := f41_1 F a1 1 128 (fun x1 => cond x1 (f41_1 F a2 2 4 (fun x2 => cond x2 (f41_1 F a3 0 64 (fun x3 => cond x3 (f41_1 F a4 1 320 (fun x4 => K0 x4) ) (K0 false)) ) (K0 false)) ) (K0 false)) 
variable [FZ]
def sh31_1 : Sh := ⟨[.agg [.int .i64, .int .i64, .int .i64, .int .i64]], []⟩
abbrev Y31_1 := Int → Int → Int → Int → (Bool → Option Res) → Option Res
noncomputable def A31_1 (g : Y31_1) (d : sh31_1.den) (K : KF) : Option Res := g d.1.1.1 d.1.1.2.1 d.1.1.2.2.1 d.1.1.2.2.2.1 (fun y0 => K [.lf (.bool y0)] [])
noncomputable def S31_1 (F : Nat) (o : Summ) : Summ := mkS sh31_1 (fun d K => A31_1 (f31_1 F) d K) o
noncomputable def code31 : Code := bodyOf Try.f31
theorem enter31 : En Try.prog 31 := enO (fn := Try.f31)
noncomputable def T31_1 (F : Nat) : FuncId → Option Summ := tab [(41, (S41_1 F noS))]
noncomputable def LT31_1 (F : Nat) : Nat → Option LoopS := ltab []
theorem E31_1 (F : Nat) (d : sh31_1.den) (K : KF) : EB Try.prog (T31_1 F) (xw []) 21 0 (LT31_1 F) [] false Try.f31 sh31_1 d K = A31_1 (f31_1 F) d K := by delta A31_1 f31_1 T31_1 S41_1 LT31_1;  generalize (f41_1 F : Y41_1) = c; as_aux_lemma => kernel_rfl
theorem S31_1_ok : So Try.prog 31 S31_1 :=
  fun F o ho => sOf (fn := Try.f31) (c := code31) (tab_cons (S41_1_ok F _ (noS_sound enter41)) tab_nil) ho lnil snil rnil (E31_1 F)
end
section
noncomputable def f34_1 {β : Type} (F : Nat) (a1 a2 a3 a4 a5 : Int) (K0 : Int → Bool → Option β) : Option β := cond (a5 == 0) (f31_1 F a1 a2 a3 a4 (fun x1 => K0 (IntKind.i64.wrap (2 * a3)) x1) ) (cond (a5 == 1) (f31_1 F a1 a2 a3 a4 (fun x2 => K0 (IntKind.i64.wrap (2 * a4)) x2) ) (K0 0 false))
variable [FZ]
def sh34_1 : Sh := ⟨[.agg [.int .i64, .int .i64, .int .i64, .int .i64], .lf (.int .i64)], []⟩
abbrev Y34_1 := Int → Int → Int → Int → Int → (Int → Bool → Option Res) → Option Res
noncomputable def A34_1 (g : Y34_1) (d : sh34_1.den) (K : KF) : Option Res := g d.1.1.1 d.1.1.2.1 d.1.1.2.2.1 d.1.1.2.2.2.1 d.1.2.1 (fun y0 y1 => K [.lf (.int .i64 y0), .lf (.bool y1)] [])
noncomputable def S34_1 (F : Nat) (o : Summ) : Summ := mkS sh34_1 (fun d K => A34_1 (f34_1 F) d K) o
noncomputable def code34 : Code := bodyOf Try.f34
theorem enter34 : En Try.prog 34 := enO (fn := Try.f34)
noncomputable def T34_1 (F : Nat) : FuncId → Option Summ := tab [(31, (S31_1 F noS))]
noncomputable def LT34_1 (F : Nat) : Nat → Option LoopS := ltab []
theorem E34_1 (F : Nat) (d : sh34_1.den) (K : KF) : EB Try.prog (T34_1 F) (xw []) 21 0 (LT34_1 F) [] false Try.f34 sh34_1 d K = A34_1 (f34_1 F) d K := by delta A34_1 f34_1 T34_1 S31_1 LT34_1;  generalize (f31_1 F : Y31_1) = c; as_aux_lemma => kernel_rfl
theorem S34_1_ok : So Try.prog 34 S34_1 :=
  fun F o ho => sOf (fn := Try.f34) (c := code34) (tab_cons (S31_1_ok F _ (noS_sound enter31)) tab_nil) ho lnil snil rnil (E34_1 F)
end
section
noncomputable def f43_1_l5 {β : Type} (F : Nat) (v3 v4 v5 v6 : Int) (K0 : List Int → Option β) : Nat → Int → List Int → Option β
  | 0, _, _ => none
  | k + 1, v2, v7 => cond (decide (v2 > 1)) (cond (decide (v4 = 0)) none (cond (decide ((v7.length + 1) * 8 ≤ 70368744177664)) (f43_1_l5 F v3 v4 v5 v6 K0 k (IntKind.i64.wrap ((IntKind.i64.wrap ((IntKind.i64.wrap (v2 + v4)) - 1)).tdiv v4)) (v7 ++ [IntKind.i64.wrap ((IntKind.i64.wrap ((IntKind.i64.wrap (v2 + v4)) - 1)).tdiv v4)])) none)) (K0 v7)
noncomputable def f43_1 {β : Type} (F : Nat) (a1 a2 a3 a4 : Int) (K0 : List Int → Option β) : Option β := f31_1 F a1 a2 a3 a4 (fun x1 => cond (!x1) (K0 []) (f43_1_l5 F a1 a2 a3 a4 (fun x8 => K0 x8) F a1 [a1])) 
variable [FZ]
def sh43_1 : Sh := ⟨[.agg [.int .i64, .int .i64, .int .i64, .int .i64]], []⟩
abbrev Y43_1 := Int → Int → Int → Int → (List Int → Option Res) → Option Res
noncomputable def A43_1 (g : Y43_1) (d : sh43_1.den) (K : KF) : Option Res := g d.1.1.1 d.1.1.2.1 d.1.1.2.2.1 d.1.1.2.2.2.1 (fun y0 => K [.lf (.full 0)] [some ⟨false, [.seq (.int .i64) 0 y0]⟩])
noncomputable def S43_1 (F : Nat) (o : Summ) : Summ := mkS sh43_1 (fun d K => A43_1 (f43_1 F) d K) o
noncomputable def code43 : Code := bodyOf Try.f43
noncomputable def b43_0 : Code := cB (cB (cR (cL (cR (cR (cR (code43)))))))
theorem loops43 : loopsOf code43 = [b43_0] := by kernel_rfl
theorem enter43 : En Try.prog 43 := enO (fn := Try.f43)
noncomputable def T43_1 (F : Nat) : FuncId → Option Summ := tab [(31, (S31_1 F noS))]
def sh43_1_l5 : Sh := ⟨[.lf (.ptr 0 0), .lf (.full 1), .lf (.int .i64)], [some ⟨some false, [.int .i64, .int .i64, .int .i64, .int .i64]⟩, some ⟨some false, [.seq (.int .i64) 0]⟩]⟩
abbrev Y43_1_l5 := Int → Int → Int → Int → (List Int → Option Res) → Nat → Int → List Int → Option Res
noncomputable def A43_1_l5 (g : Y43_1_l5) (k : Nat) (d : sh43_1_l5.den) (K : KL) : Option Res := g d.2.1.2.1 d.2.1.2.2.1 d.2.1.2.2.2.1 d.2.1.2.2.2.2.1 (fun y4 => K (.exit 0) [.tv (.lf (.full 1))] [some ⟨false, [.int .i64 d.2.1.2.1, .int .i64 d.2.1.2.2.1, .int .i64 d.2.1.2.2.2.1, .int .i64 d.2.1.2.2.2.2.1]⟩, some ⟨false, [.seq (.int .i64) 0 y4]⟩]) k d.1.2.2.1 d.2.2.1.2.1
noncomputable def G43_1_5 (F k : Nat) : LoopS := mkG sh43_1_l5 [1, 3, 4] (outT [(.exit 0, [3])]) (fun d K => A43_1_l5 (f43_1_l5 F) k d K) []
noncomputable def LT43_1 (F : Nat) : Nat → Option LoopS := ltab [(5, G43_1_5 F F)]
theorem L43_1_5 (F : Nat) : LoopOK Try.prog (T43_1 F) (xw []) 28 0 (LT43_1 F) (G43_1_5 F F) b43_0 :=
  loopOK_of (s := sh43_1_l5) (live := [1, 3, 4]) (out := (outT [(.exit 0, [3])])) (mv := []) (fun k d K => A43_1_l5 (f43_1_l5 F) k d K) F (fun d K => by kernel_rfl)  (fun k d K => by delta A43_1_l5; refine (f43_1_l5.eq_2 ..).trans ?_; delta T43_1 S31_1 LT43_1; generalize (G43_1_5 F F) = c;  (try delta G43_1_5); generalize (f31_1 F : Y31_1) = c, (f43_1_l5 F : Y43_1_l5) = c; as_aux_lemma => kernel_rfl)
theorem E43_1 (F : Nat) (d : sh43_1.den) (K : KF) : EB Try.prog (T43_1 F) (xw []) 28 0 (LT43_1 F) [] false Try.f43 sh43_1 d K = A43_1 (f43_1 F) d K := by delta A43_1 f43_1 T43_1 S31_1 LT43_1;  delta G43_1_5; generalize (f31_1 F : Y31_1) = c, (f43_1_l5 F : Y43_1_l5) = c; as_aux_lemma => kernel_rfl
theorem S43_1_ok : So Try.prog 43 S43_1 :=
  fun F o ho => sOf (fn := Try.f43) (c := code43) (tab_cons (S31_1_ok F _ (noS_sound enter31)) tab_nil) ho (by rw [loops43]; exact (loopsOK_cons (by kernel_rfl) (L43_1_5 F) loopsOK_nil)) snil rnil (E43_1 F)
end
section
noncomputable def f35_1_l3 {β : Type} (F : Nat) (v3 : Int) (v5 : List Int) (K0 : Int → Option β) : Nat → Int → Int → Option β
  | 0, _, _ => none
  | k + 1, v2, v4 => cond (decide (v4 < v3)) (cond (decide ((0 : Int) ≤ v4 ∧ v4 < ((v5.length : Nat) : Int))) (cond (decide (0 + v4.toNat < v5.length)) (f35_1_l3 F v3 v5 K0 k (IntKind.i64.wrap (v2 + (v5.getD (0 + v4.toNat) 0))) (IntKind.i64.wrap (v4 + 1))) none) none) (K0 v2)
noncomputable def f35_1 {β : Type} (F : Nat) (a1 a2 a3 a4 : Int) (K0 : Int → Option β) : Option β := f43_1 F a1 a2 a3 a4 (fun x1 => f35_1_l3 F ((x1.length : Nat) : Int) x1 (fun x6 => K0 x6) F 0 0) 
variable [FZ]
def sh35_1 : Sh := ⟨[.agg [.int .i64, .int .i64, .int .i64, .int .i64]], []⟩
abbrev Y35_1 := Int → Int → Int → Int → (Int → Option Res) → Option Res
noncomputable def A35_1 (g : Y35_1) (d : sh35_1.den) (K : KF) : Option Res := g d.1.1.1 d.1.1.2.1 d.1.1.2.2.1 d.1.1.2.2.2.1 (fun y0 => K [.lf (.int .i64 y0)] [])
noncomputable def S35_1 (F : Nat) (o : Summ) : Summ := mkS sh35_1 (fun d K => A35_1 (f35_1 F) d K) o
noncomputable def code35 : Code := bodyOf Try.f35
noncomputable def b35_0 : Code := cB (cB (cR (cL (cR (cR (code35))))))
theorem loops35 : loopsOf code35 = [b35_0] := by kernel_rfl
theorem enter35 : En Try.prog 35 := enO (fn := Try.f35)
noncomputable def T35_1 (F : Nat) : FuncId → Option Summ := tab [(43, (S43_1 F noS))]
def sh35_1_l3 : Sh := ⟨[.lf (.int .i64), .lf (.full 0), .lf (.int .i64), .lf (.int .i64)], [some ⟨some false, [.seq (.int .i64) 0]⟩]⟩
abbrev Y35_1_l3 := Int → List Int → (Int → Option Res) → Nat → Int → Int → Option Res
noncomputable def A35_1_l3 (g : Y35_1_l3) (k : Nat) (d : sh35_1_l3.den) (K : KL) : Option Res := g d.1.2.2.1 d.2.1.2.1 (fun y0 => K (.exit 0) [.tv (.lf (.int .i64 y0))] [some ⟨false, [.seq (.int .i64) 0 d.2.1.2.1]⟩]) k d.1.1 d.1.2.2.2.1
noncomputable def G35_1_3 (F k : Nat) : LoopS := mkG sh35_1_l3 [3, 7, 8, 9] (outT [(.exit 0, [3])]) (fun d K => A35_1_l3 (f35_1_l3 F) k d K) []
noncomputable def LT35_1 (F : Nat) : Nat → Option LoopS := ltab [(3, G35_1_3 F F)]
theorem L35_1_3 (F : Nat) : LoopOK Try.prog (T35_1 F) (xw []) 18 0 (LT35_1 F) (G35_1_3 F F) b35_0 :=
  loopOK_of (s := sh35_1_l3) (live := [3, 7, 8, 9]) (out := (outT [(.exit 0, [3])])) (mv := []) (fun k d K => A35_1_l3 (f35_1_l3 F) k d K) F (fun d K => by kernel_rfl)  (fun k d K => by delta A35_1_l3; refine (f35_1_l3.eq_2 ..).trans ?_; delta T35_1 S43_1 LT35_1; generalize (G35_1_3 F F) = c;  (try delta G35_1_3); generalize (f43_1 F : Y43_1) = c, (f35_1_l3 F : Y35_1_l3) = c; as_aux_lemma => kernel_rfl)
theorem E35_1 (F : Nat) (d : sh35_1.den) (K : KF) : EB Try.prog (T35_1 F) (xw []) 18 0 (LT35_1 F) [] false Try.f35 sh35_1 d K = A35_1 (f35_1 F) d K := by delta A35_1 f35_1 T35_1 S43_1 LT35_1;  delta G35_1_3; generalize (f43_1 F : Y43_1) = c, (f35_1_l3 F : Y35_1_l3) = c; as_aux_lemma => kernel_rfl
theorem S35_1_ok : So Try.prog 35 S35_1 :=
  fun F o ho => sOf (fn := Try.f35) (c := code35) (tab_cons (S43_1_ok F _ (noS_sound enter43)) tab_nil) ho (by rw [loops35]; exact (loopsOK_cons (by kernel_rfl) (L35_1_3 F) loopsOK_nil)) snil rnil (E35_1 F)
end
section
noncomputable def f19_1 {β : Type} (F : Nat) (a1 a2 a3 a4 a5 : Int) (K0 : Int → Option β) : Option β := f34_1 F a1 a2 a3 a4 a5 (fun x1 x2 => cond (!x2) (K0 0) (f35_1 F a1 a2 a3 a4 (fun x3 => K0 (IntKind.i64.wrap ((IntKind.i64.wrap ((IntKind.i64.wrap (6 + a1)) + x3)) + x1))) )) 
variable [FZ]
def sh19_1 : Sh := ⟨[.agg [.int .i64, .int .i64, .int .i64, .int .i64], .lf (.int .i64)], []⟩
abbrev Y19_1 := Int → Int → Int → Int → Int → (Int → Option Res) → Option Res
noncomputable def A19_1 (g : Y19_1) (d : sh19_1.den) (K : KF) : Option Res := g d.1.1.1 d.1.1.2.1 d.1.1.2.2.1 d.1.1.2.2.2.1 d.1.2.1 (fun y0 => K [.lf (.int .i64 y0)] [])
noncomputable def S19_1 (F : Nat) (o : Summ) : Summ := mkS sh19_1 (fun d K => A19_1 (f19_1 F) d K) o
noncomputable def code19 : Code := bodyOf Try.f19
theorem enter19 : En Try.prog 19 := enO (fn := Try.f19)
noncomputable def T19_1 (F : Nat) : FuncId → Option Summ := tab [(34, (S34_1 F noS)), (35, (S35_1 F noS))]
noncomputable def LT19_1 (F : Nat) : Nat → Option LoopS := ltab []
theorem E19_1 (F : Nat) (d : sh19_1.den) (K : KF) : EB Try.prog (T19_1 F) (xw []) 23 0 (LT19_1 F) [] false Try.f19 sh19_1 d K = A19_1 (f19_1 F) d K := by delta A19_1 f19_1 T19_1 S34_1 S35_1 LT19_1;  generalize (f34_1 F : Y34_1) = c, (f35_1 F : Y35_1) = c; as_aux_lemma => kernel_rfl
theorem S19_1_ok : So Try.prog 19 S19_1 :=
  fun F o ho => sOf (fn := Try.f19) (c := code19) (tab_cons (S34_1_ok F _ (noS_sound enter34)) (tab_cons (S35_1_ok F _ (noS_sound enter35)) tab_nil)) ho lnil snil rnil (E19_1 F)
end
section
noncomputable def f29_1 {β : Type} (F : Nat) (a1 a2 a3 a4 a5 : Int) (K0 : Bool → Option β) : Option β := f31_1 F a1 a2 a3 a4 (fun x1 => cond x1 (f19_1 F a1 a2 a3 a4 0 (fun x2 => f19_1 F a1 a2 a3 a4 1 (fun x3 => K0 (decide ((if x3 > x2 then x3 else x2) ≤ a5))) ) ) (K0 false)) 
variable [FZ]
def sh29_1 : Sh := ⟨[.agg [.int .i64, .int .i64, .int .i64, .int .i64], .lf (.int .i64)], []⟩
abbrev Y29_1 := Int → Int → Int → Int → Int → (Bool → Option Res) → Option Res
noncomputable def A29_1 (g : Y29_1) (d : sh29_1.den) (K : KF) : Option Res := g d.1.1.1 d.1.1.2.1 d.1.1.2.2.1 d.1.1.2.2.2.1 d.1.2.1 (fun y0 => K [.lf (.bool y0)] [])
noncomputable def S29_1 (F : Nat) (o : Summ) : Summ := mkS sh29_1 (fun d K => A29_1 (f29_1 F) d K) o
noncomputable def code29 : Code := bodyOf Try.f29
theorem enter29 : En Try.prog 29 := enO (fn := Try.f29)
noncomputable def T29_1 (F : Nat) : FuncId → Option Summ := tab [(19, (S19_1 F noS)), (31, (S31_1 F noS))]
noncomputable def LT29_1 (F : Nat) : Nat → Option LoopS := ltab []
theorem E29_1 (F : Nat) (d : sh29_1.den) (K : KF) : EB Try.prog (T29_1 F) (xw []) 16 0 (LT29_1 F) [] false Try.f29 sh29_1 d K = A29_1 (f29_1 F) d K := by delta A29_1 f29_1 T29_1 S19_1 S31_1 LT29_1;  generalize (f19_1 F : Y19_1) = c, (f31_1 F : Y31_1) = c; as_aux_lemma => kernel_rfl
theorem S29_1_ok : So Try.prog 29 S29_1 :=
  fun F o ho => sOf (fn := Try.f29) (c := code29) (tab_cons (S19_1_ok F _ (noS_sound enter19)) (tab_cons (S31_1_ok F _ (noS_sound enter31)) tab_nil)) ho lnil snil rnil (E29_1 F)
end
section
noncomputable def f23_1 {β : Type} (F : Nat) (a1 a2 a3 a4 : Int) (K0 : Int → Option β) : Option β := f31_1 F a1 a2 a3 a4 (fun x1 => cond (!x1) (K0 0) (f35_1 F a1 a2 a3 a4 (fun x2 => K0 (IntKind.i64.wrap (a1 + x2))) )) 
variable [FZ]
def sh23_1 : Sh := ⟨[.agg [.int .i64, .int .i64, .int .i64, .int .i64]], []⟩
abbrev Y23_1 := Int → Int → Int → Int → (Int → Option Res) → Option Res
noncomputable def A23_1 (g : Y23_1) (d : sh23_1.den) (K : KF) : Option Res := g d.1.1.1 d.1.1.2.1 d.1.1.2.2.1 d.1.1.2.2.2.1 (fun y0 => K [.lf (.int .i64 y0)] [])
noncomputable def S23_1 (F : Nat) (o : Summ) : Summ := mkS sh23_1 (fun d K => A23_1 (f23_1 F) d K) o
noncomputable def code23 : Code := bodyOf Try.f23
theorem enter23 : En Try.prog 23 := enO (fn := Try.f23)
noncomputable def T23_1 (F : Nat) : FuncId → Option Summ := tab [(31, (S31_1 F noS)), (35, (S35_1 F noS))]
noncomputable def LT23_1 (F : Nat) : Nat → Option LoopS := ltab []
theorem E23_1 (F : Nat) (d : sh23_1.den) (K : KF) : EB Try.prog (T23_1 F) (xw []) 11 0 (LT23_1 F) [] false Try.f23 sh23_1 d K = A23_1 (f23_1 F) d K := by delta A23_1 f23_1 T23_1 S31_1 S35_1 LT23_1;  generalize (f31_1 F : Y31_1) = c, (f35_1 F : Y35_1) = c; as_aux_lemma => kernel_rfl
theorem S23_1_ok : So Try.prog 23 S23_1 :=
  fun F o ho => sOf (fn := Try.f23) (c := code23) (tab_cons (S31_1_ok F _ (noS_sound enter31)) (tab_cons (S35_1_ok F _ (noS_sound enter35)) tab_nil)) ho lnil snil rnil (E23_1 F)
end
section
noncomputable def f30_1 {β : Type} (F : Nat) (a1 a2 a3 : Int) (K0 : Int → Option β) : Option β := f23_1 F a1 a2 a3 1 (fun x1 => K0 (if (if 320 < x1 then 320 else x1) > 1 then (if 320 < x1 then 320 else x1) else 1)) 
variable [FZ]
def sh30_1 : Sh := ⟨[.lf (.int .i64), .lf (.int .i64), .lf (.int .i64)], []⟩
abbrev Y30_1 := Int → Int → Int → (Int → Option Res) → Option Res
noncomputable def A30_1 (g : Y30_1) (d : sh30_1.den) (K : KF) : Option Res := g d.1.1 d.1.2.1 d.1.2.2.1 (fun y3 => K [.agg [.int .i64 d.1.1, .int .i64 d.1.2.1, .int .i64 d.1.2.2.1, .int .i64 y3]] [])
noncomputable def S30_1 (F : Nat) (o : Summ) : Summ := mkS sh30_1 (fun d K => A30_1 (f30_1 F) d K) o
noncomputable def code30 : Code := bodyOf Try.f30
theorem enter30 : En Try.prog 30 := enO (fn := Try.f30)
noncomputable def T30_1 (F : Nat) : FuncId → Option Summ := tab [(23, (S23_1 F noS))]
noncomputable def LT30_1 (F : Nat) : Nat → Option LoopS := ltab []
theorem E30_1 (F : Nat) (d : sh30_1.den) (K : KF) : EB Try.prog (T30_1 F) (xw []) 18 0 (LT30_1 F) [] false Try.f30 sh30_1 d K = A30_1 (f30_1 F) d K := by delta A30_1 f30_1 T30_1 S23_1 LT30_1;  generalize (f23_1 F : Y23_1) = c; as_aux_lemma => kernel_rfl
theorem S30_1_ok : So Try.prog 30 S30_1 :=
  fun F o ho => sOf (fn := Try.f30) (c := code30) (tab_cons (S23_1_ok F _ (noS_sound enter23)) tab_nil) ho lnil snil rnil (E30_1 F)
end
section
noncomputable def f15_1_l1000000 {β : Type} (F : Nat) (v5 v6 v7 v9 v10 v11 v12 : Int) (K0 : Int → Int → Option β) : Nat → Int → Option β
  | 0, _ => none
  | k + 1, v8 => f30_1 F (IntKind.i64.wrap (v8 + 1)) v6 v7 (fun x13 => f29_1 F (IntKind.i64.wrap (v8 + 1)) v6 v7 x13 v5 (fun x14 => cond x14 (f15_1_l1000000 F v5 v6 v7 v9 v10 v11 v12 K0 k (IntKind.i64.wrap (v8 + 1))) (f30_1 F v8 v6 v7 (fun x15 => K0 v8 x15) )) ) 
noncomputable def f15_1 {β : Type} (F : Nat) (a1 a2 a3 : Int) (K0 : Int → Int → Int → Int → Int → Option β) : Option β := cond (decide (a2 < 2)) (K0 0 0 0 0 2) (cond (decide (a2 > 4)) (K0 0 0 0 0 2) (cond (decide (a3 < 0)) (K0 0 0 0 0 2) (cond (decide (a3 > 64)) (K0 0 0 0 0 2) (f30_1 F 1 a2 a3 (fun x1 => f29_1 F 1 a2 a3 x1 a1 (fun x2 => cond (!x2) (K0 0 0 0 0 11) (f30_1 F 2 a2 a3 (fun x3 => f29_1 F 2 a2 a3 x3 a1 (fun x4 => cond x4 (f15_1_l1000000 F a1 a2 a3 0 0 0 0 (fun x16 x17 => K0 x16 a2 a3 x17 0) F 2) (f30_1 F 1 a2 a3 (fun x18 => K0 1 a2 a3 x18 0) )) ) )) ) ))))
variable [FZ]
def sh15_1 : Sh := ⟨[.lf (.int .i64), .lf (.int .i64), .lf (.int .i64)], []⟩
abbrev Y15_1 := Int → Int → Int → (Int → Int → Int → Int → Int → Option Res) → Option Res
noncomputable def A15_1 (g : Y15_1) (d : sh15_1.den) (K : KF) : Option Res := g d.1.1 d.1.2.1 d.1.2.2.1 (fun y0 y1 y2 y3 y4 => K [.agg [.int .i64 y0, .int .i64 y1, .int .i64 y2, .int .i64 y3], .lf (.int .i64 y4)] [])
noncomputable def S15_1 (F : Nat) (o : Summ) : Summ := mkS sh15_1 (fun d K => A15_1 (f15_1 F) d K) o
noncomputable def code15 : Code := bodyOf Try.f15
noncomputable def s15_0 : Code := cB (cR (code15))
noncomputable def r15_0 : Code := match findLabel s15_0 0 with | some c => c | none => .skip
theorem find15_0 : findLabel s15_0 0 = some r15_0 := by kernel_rfl
theorem rloops15_0 : loopsOf r15_0 = [] := by kernel_rfl
theorem rscopes15_0 : scopesOf r15_0 = [] := by kernel_rfl
theorem rranges15_0 : rangesOf r15_0 = [] := by kernel_rfl
theorem scopes15 : scopesOf code15 = [s15_0] := by kernel_rfl
theorem enter15 : En Try.prog 15 := enO (fn := Try.f15)
noncomputable def T15_1 (F : Nat) : FuncId → Option Summ := tab [(29, (S29_1 F noS)), (30, (S30_1 F noS))]
def sh15_1_l1000000 : Sh := ⟨[.lf (.int .i64), .lf (.int .i64), .lf (.int .i64), .lf (.ptr 0 0), .lf (.int .i64)], [some ⟨some false, [.int .i64, .int .i64, .int .i64, .int .i64]⟩]⟩
abbrev Y15_1_l1000000 := Int → Int → Int → Int → Int → Int → Int → (Int → Int → Option Res) → Nat → Int → Option Res
noncomputable def A15_1_l1000000 (g : Y15_1_l1000000) (k : Nat) (d : sh15_1_l1000000.den) (K : KL) : Option Res := g d.1.1 d.1.2.1 d.1.2.2.1 d.2.1.2.1 d.2.1.2.2.1 d.2.1.2.2.2.1 d.2.1.2.2.2.2.1 (fun y1 y4 => K .ret [.tv (.lf (.ptr 0 0)), .tv (.lf (.int .i64 0))] [some ⟨false, [.int .i64 y1, .int .i64 d.1.2.1, .int .i64 d.1.2.2.1, .int .i64 y4]⟩]) k d.1.2.2.2.2.1
noncomputable def G15_1_1000000 (F k : Nat) : LoopS := mkG sh15_1_l1000000 [0, 1, 2, 6, 8] (outT [(.ret, [6, 7])]) (fun d K => A15_1_l1000000 (f15_1_l1000000 F) k d K) []
noncomputable def LT15_1 (F : Nat) : Nat → Option LoopS := ltab [(1000000, G15_1_1000000 F F)]
theorem L15_1_1000000 (F : Nat) : LabelOK Try.prog (T15_1 F) (xw []) 45 0 (LT15_1 F) (G15_1_1000000 F F) 0 s15_0 :=
  labelOK_of rfl (by kernel_rfl) (tab_cons (S29_1_ok F _ (noS_sound enter29)) (tab_cons (S30_1_ok F _ (noS_sound enter30)) tab_nil)) (s := sh15_1_l1000000) (live := [0, 1, 2, 6, 8]) (out := (outT [(.ret, [6, 7])])) (mv := []) (fun k d K => A15_1_l1000000 (f15_1_l1000000 F) k d K) F find15_0 (fun d K => by kernel_rfl)  (fun k d K => by delta A15_1_l1000000; refine (f15_1_l1000000.eq_2 ..).trans ?_; delta T15_1 S29_1 S30_1 LT15_1; generalize (G15_1_1000000 F F) = c;  (try delta G15_1_1000000); generalize (f29_1 F : Y29_1) = c, (f30_1 F : Y30_1) = c, (f15_1_l1000000 F : Y15_1_l1000000) = c; as_aux_lemma => kernel_rfl) (by rw [rloops15_0]; exact loopsOK_nil) (by rw [rscopes15_0]; exact scopesOK_nil) (by rw [rranges15_0]; exact rangesOK_nil)
theorem E15_1 (F : Nat) (d : sh15_1.den) (K : KF) : EB Try.prog (T15_1 F) (xw []) 45 0 (LT15_1 F) [] false Try.f15 sh15_1 d K = A15_1 (f15_1 F) d K := by delta A15_1 f15_1 T15_1 S29_1 S30_1 LT15_1;  delta G15_1_1000000; generalize (f29_1 F : Y29_1) = c, (f30_1 F : Y30_1) = c, (f15_1_l1000000 F : Y15_1_l1000000) = c; as_aux_lemma => kernel_rfl
theorem S15_1_ok : So Try.prog 15 S15_1 :=
  fun F o ho => sOf (fn := Try.f15) (c := code15) (tab_cons (S29_1_ok F _ (noS_sound enter29)) (tab_cons (S30_1_ok F _ (noS_sound enter30)) tab_nil)) ho lnil (by rw [scopes15]; exact (scopesOK_cons (by kernel_rfl) (by kernel_rfl) (L15_1_1000000 F) scopesOK_nil)) rnil (E15_1 F)
end
section
noncomputable def f21_1 {β : Type} (F : Nat) (a1 a2 a3 a4 a5 : Int) (K0 : Nat → Option β) (K1 : Option β) : Option β := f19_1 F a1 a2 a3 a4 a5 (fun x1 => fquo .f64 (FloatKind.f64.nearest a1) (FloatKind.f64.nearest x1) (fun x2 => K0 x2) (K1)) 
variable [FZ]
def sh21_1 : Sh := ⟨[.agg [.int .i64, .int .i64, .int .i64, .int .i64], .lf (.int .i64)], []⟩
abbrev Y21_1 := Int → Int → Int → Int → Int → (Nat → Option Res) → (Option Res) → Option Res
noncomputable def A21_1 (g : Y21_1) (d : sh21_1.den) (K : KF) : Option Res := g d.1.1.1 d.1.1.2.1 d.1.1.2.2.1 d.1.1.2.2.2.1 d.1.2.1 (fun y0 => K [.lf (.flt .f64 y0)] []) (K [.lf (.nan .f64)] [])
noncomputable def S21_1 (F : Nat) (o : Summ) : Summ := mkS sh21_1 (fun d K => A21_1 (f21_1 F) d K) o
noncomputable def code21 : Code := bodyOf Try.f21
theorem enter21 : En Try.prog 21 := enO (fn := Try.f21)
noncomputable def T21_1 (F : Nat) : FuncId → Option Summ := tab [(19, (S19_1 F noS))]
noncomputable def LT21_1 (F : Nat) : Nat → Option LoopS := ltab []
theorem E21_1 (F : Nat) (d : sh21_1.den) (K : KF) : EB Try.prog (T21_1 F) (xw []) 13 0 (LT21_1 F) [] false Try.f21 sh21_1 d K = A21_1 (f21_1 F) d K := by delta A21_1 f21_1 T21_1 S19_1 LT21_1;  generalize (f19_1 F : Y19_1) = c; as_aux_lemma => kernel_rfl
theorem S21_1_ok : So Try.prog 21 S21_1 :=
  fun F o ho => sOf (fn := Try.f21) (c := code21) (tab_cons (S19_1_ok F _ (noS_sound enter19)) tab_nil) ho lnil snil rnil (E21_1 F)
end
section
noncomputable def f17_1 {β : Type} (F : Nat)  (K0 : Bool → Option β) : Option β := f15_1 F 100 2 1 (fun x1 x2 x3 x4 x5 => f15_1 F 3 2 1 (fun x6 x7 x8 x9 x10 => f23_1 F 4 2 0 1 (fun x11 => cond (x11 == 11) (cond (x5 == 0) (f31_1 F x1 x2 x3 x4 (fun x12 => cond x12 (cond (x10 == 11) (f21_1 F 4 2 0 1 0 (fun x13 => K0 (FloatKind.f64.format.order x13 (4597645384294997534 : Nat) == some .eq)) (K0 false) ) (K0 false)) (K0 false)) ) (K0 false)) (K0 false)) ) ) 
variable [FZ]
def sh17_1 : Sh := ⟨[], []⟩
abbrev Y17_1 := (Bool → Option Res) → Option Res
noncomputable def A17_1 (g : Y17_1) (d : sh17_1.den) (K : KF) : Option Res := g (fun y0 => K [.lf (.bool y0)] [])
noncomputable def S17_1 (F : Nat) (o : Summ) : Summ := mkS sh17_1 (fun d K => A17_1 (f17_1 F) d K) o
noncomputable def code17 : Code := bodyOf Try.f17
theorem enter17 : En Try.prog 17 := enO (fn := Try.f17)
noncomputable def T17_1 (F : Nat) : FuncId → Option Summ := tab [(15, (S15_1 F noS)), (21, (S21_1 F noS)), (23, (S23_1 F noS)), (31, (S31_1 F noS))]
noncomputable def LT17_1 (F : Nat) : Nat → Option LoopS := ltab []
theorem E17_1 (F : Nat) (d : sh17_1.den) (K : KF) : EB Try.prog (T17_1 F) (xw []) 33 0 (LT17_1 F) [] false Try.f17 sh17_1 d K = A17_1 (f17_1 F) d K := by delta A17_1 f17_1 T17_1 S15_1 S21_1 S23_1 S31_1 LT17_1;  generalize (f15_1 F : Y15_1) = c, (f21_1 F : Y21_1) = c, (f23_1 F : Y23_1) = c, (f31_1 F : Y31_1) = c; as_aux_lemma => kernel_rfl
theorem S17_1_ok : So Try.prog 17 S17_1 :=
  fun F o ho => sOf (fn := Try.f17) (c := code17) (tab_cons (S15_1_ok F _ (noS_sound enter15)) (tab_cons (S21_1_ok F _ (noS_sound enter21)) (tab_cons (S23_1_ok F _ (noS_sound enter23)) (tab_cons (S31_1_ok F _ (noS_sound enter31)) tab_nil)))) ho lnil snil rnil (E17_1 F)
end
section
noncomputable def f32_1 {β : Type} (F : Nat) (a1 a2 a3 a4 : Int) (K0 : Bool → Option β) : Option β := cond (decide (a1 ≥ 1)) (cond (decide (a1 ≤ 128)) (cond (decide (a2 ≥ 2)) (cond (decide (a2 ≤ 4)) (cond (decide (a3 ≥ 0)) (cond (decide (a3 ≤ 64)) (cond (decide (a4 ≥ 1)) (K0 (decide (a4 ≤ 320))) (K0 false)) (K0 false)) (K0 false)) (K0 false)) (K0 false)) (K0 false)) (K0 false)
variable [FZ]
def sh32_1 : Sh := ⟨[.agg [.int .i64, .int .i64, .int .i64, .int .i64]], []⟩
abbrev Y32_1 := Int → Int → Int → Int → (Bool → Option Res) → Option Res
noncomputable def A32_1 (g : Y32_1) (d : sh32_1.den) (K : KF) : Option Res := g d.1.1.1 d.1.1.2.1 d.1.1.2.2.1 d.1.1.2.2.2.1 (fun y0 => K [.lf (.bool y0)] [])
noncomputable def S32_1 (F : Nat) (o : Summ) : Summ := mkS sh32_1 (fun d K => A32_1 (f32_1 F) d K) o
noncomputable def code32 : Code := bodyOf Try.f32
theorem enter32 : En Try.prog 32 := enO (fn := Try.f32)
noncomputable def T32_1 (F : Nat) : FuncId → Option Summ := tab []
noncomputable def LT32_1 (F : Nat) : Nat → Option LoopS := ltab []
theorem E32_1 (F : Nat) (d : sh32_1.den) (K : KF) : EB Try.prog (T32_1 F) (xw []) 41 0 (LT32_1 F) [] false Try.f32 sh32_1 d K = A32_1 (f32_1 F) d K := by delta A32_1 f32_1 T32_1 LT32_1;   as_aux_lemma => kernel_rfl
theorem S32_1_ok : So Try.prog 32 S32_1 :=
  fun F o ho => sOf (fn := Try.f32) (c := code32) tab_nil ho lnil snil rnil (E32_1 F)
end
section
noncomputable def f44_1_l5 {β : Type} (F : Nat) (v3 v4 v5 v6 : Int) (K0 : List Int → Option β) : Nat → Int → List Int → Option β
  | 0, _, _ => none
  | k + 1, v2, v7 => cond (decide (v2 > 1)) (cond (decide (v4 = 0)) none (cond (decide ((v7.length + 1) * 8 ≤ 70368744177664)) (f44_1_l5 F v3 v4 v5 v6 K0 k (IntKind.i64.wrap ((IntKind.i64.wrap ((IntKind.i64.wrap (v2 + v4)) - 1)).tdiv v4)) (v7 ++ [IntKind.i64.wrap ((IntKind.i64.wrap ((IntKind.i64.wrap (v2 + v4)) - 1)).tdiv v4)])) none)) (K0 v7)
noncomputable def f44_1 {β : Type} (F : Nat) (a1 a2 a3 a4 : Int) (K0 : List Int → Option β) : Option β := f32_1 F a1 a2 a3 a4 (fun x1 => cond (!x1) (K0 []) (f44_1_l5 F a1 a2 a3 a4 (fun x8 => K0 x8) F a1 [a1])) 
variable [FZ]
def sh44_1 : Sh := ⟨[.agg [.int .i64, .int .i64, .int .i64, .int .i64]], []⟩
abbrev Y44_1 := Int → Int → Int → Int → (List Int → Option Res) → Option Res
noncomputable def A44_1 (g : Y44_1) (d : sh44_1.den) (K : KF) : Option Res := g d.1.1.1 d.1.1.2.1 d.1.1.2.2.1 d.1.1.2.2.2.1 (fun y0 => K [.lf (.full 0)] [some ⟨false, [.seq (.int .i64) 0 y0]⟩])
noncomputable def S44_1 (F : Nat) (o : Summ) : Summ := mkS sh44_1 (fun d K => A44_1 (f44_1 F) d K) o
noncomputable def code44 : Code := bodyOf Try.f44
noncomputable def b44_0 : Code := cB (cB (cR (cL (cR (cR (cR (code44)))))))
theorem loops44 : loopsOf code44 = [b44_0] := by kernel_rfl
theorem enter44 : En Try.prog 44 := enO (fn := Try.f44)
noncomputable def T44_1 (F : Nat) : FuncId → Option Summ := tab [(32, (S32_1 F noS))]
def sh44_1_l5 : Sh := ⟨[.lf (.ptr 0 0), .lf (.full 1), .lf (.int .i64)], [some ⟨some false, [.int .i64, .int .i64, .int .i64, .int .i64]⟩, some ⟨some false, [.seq (.int .i64) 0]⟩]⟩
abbrev Y44_1_l5 := Int → Int → Int → Int → (List Int → Option Res) → Nat → Int → List Int → Option Res
noncomputable def A44_1_l5 (g : Y44_1_l5) (k : Nat) (d : sh44_1_l5.den) (K : KL) : Option Res := g d.2.1.2.1 d.2.1.2.2.1 d.2.1.2.2.2.1 d.2.1.2.2.2.2.1 (fun y4 => K (.exit 0) [.tv (.lf (.full 1))] [some ⟨false, [.int .i64 d.2.1.2.1, .int .i64 d.2.1.2.2.1, .int .i64 d.2.1.2.2.2.1, .int .i64 d.2.1.2.2.2.2.1]⟩, some ⟨false, [.seq (.int .i64) 0 y4]⟩]) k d.1.2.2.1 d.2.2.1.2.1
noncomputable def G44_1_5 (F k : Nat) : LoopS := mkG sh44_1_l5 [1, 3, 4] (outT [(.exit 0, [3])]) (fun d K => A44_1_l5 (f44_1_l5 F) k d K) []
noncomputable def LT44_1 (F : Nat) : Nat → Option LoopS := ltab [(5, G44_1_5 F F)]
theorem L44_1_5 (F : Nat) : LoopOK Try.prog (T44_1 F) (xw []) 28 0 (LT44_1 F) (G44_1_5 F F) b44_0 :=
  loopOK_of (s := sh44_1_l5) (live := [1, 3, 4]) (out := (outT [(.exit 0, [3])])) (mv := []) (fun k d K => A44_1_l5 (f44_1_l5 F) k d K) F (fun d K => by kernel_rfl)  (fun k d K => by delta A44_1_l5; refine (f44_1_l5.eq_2 ..).trans ?_; delta T44_1 S32_1 LT44_1; generalize (G44_1_5 F F) = c;  (try delta G44_1_5); generalize (f32_1 F : Y32_1) = c, (f44_1_l5 F : Y44_1_l5) = c; as_aux_lemma => kernel_rfl)
theorem E44_1 (F : Nat) (d : sh44_1.den) (K : KF) : EB Try.prog (T44_1 F) (xw []) 28 0 (LT44_1 F) [] false Try.f44 sh44_1 d K = A44_1 (f44_1 F) d K := by delta A44_1 f44_1 T44_1 S32_1 LT44_1;  delta G44_1_5; generalize (f32_1 F : Y32_1) = c, (f44_1_l5 F : Y44_1_l5) = c; as_aux_lemma => kernel_rfl
theorem S44_1_ok : So Try.prog 44 S44_1 :=
  fun F o ho => sOf (fn := Try.f44) (c := code44) (tab_cons (S32_1_ok F _ (noS_sound enter32)) tab_nil) ho (by rw [loops44]; exact (loopsOK_cons (by kernel_rfl) (L44_1_5 F) loopsOK_nil)) snil rnil (E44_1 F)
end
section
noncomputable def f36_1_l4 {β : Type} (F : Nat) (v4 : List Int) (K0 : Int → Option β) : Nat → Int → Int → Option β
  | 0, _, _ => none
  | k + 1, v2, v3 => cond (decide (v3 < ((v4.length : Nat) : Int))) (cond (decide ((0 : Int) ≤ v3 ∧ v3 < ((v4.length : Nat) : Int))) (cond (decide (0 + v3.toNat < v4.length)) (f36_1_l4 F v4 K0 k (IntKind.i64.wrap (v2 + (v4.getD (0 + v3.toNat) 0))) (IntKind.i64.wrap (v3 + 1))) none) none) (K0 v2)
noncomputable def f36_1 {β : Type} (F : Nat) (a1 a2 a3 a4 : Int) (K0 : Int → Option β) : Option β := f44_1 F a1 a2 a3 a4 (fun x1 => f36_1_l4 F x1 (fun x5 => K0 x5) F 0 0) 
variable [FZ]
def sh36_1 : Sh := ⟨[.agg [.int .i64, .int .i64, .int .i64, .int .i64]], []⟩
abbrev Y36_1 := Int → Int → Int → Int → (Int → Option Res) → Option Res
noncomputable def A36_1 (g : Y36_1) (d : sh36_1.den) (K : KF) : Option Res := g d.1.1.1 d.1.1.2.1 d.1.1.2.2.1 d.1.1.2.2.2.1 (fun y0 => K [.lf (.int .i64 y0)] [])
noncomputable def S36_1 (F : Nat) (o : Summ) : Summ := mkS sh36_1 (fun d K => A36_1 (f36_1 F) d K) o
noncomputable def code36 : Code := bodyOf Try.f36
noncomputable def b36_0 : Code := cB (cB (cR (cL (cR (cR (cR (code36)))))))
theorem loops36 : loopsOf code36 = [b36_0] := by kernel_rfl
theorem enter36 : En Try.prog 36 := enO (fn := Try.f36)
noncomputable def T36_1 (F : Nat) : FuncId → Option Summ := tab [(44, (S44_1 F noS))]
def sh36_1_l4 : Sh := ⟨[.lf (.int .i64), .lf (.full 0), .lf (.int .i64)], [some ⟨some false, [.seq (.int .i64) 0]⟩]⟩
abbrev Y36_1_l4 := List Int → (Int → Option Res) → Nat → Int → Int → Option Res
noncomputable def A36_1_l4 (g : Y36_1_l4) (k : Nat) (d : sh36_1_l4.den) (K : KL) : Option Res := g d.2.1.2.1 (fun y0 => K (.exit 0) [.tv (.lf (.int .i64 y0))] [some ⟨false, [.seq (.int .i64) 0 d.2.1.2.1]⟩]) k d.1.1 d.1.2.2.1
noncomputable def G36_1_4 (F k : Nat) : LoopS := mkG sh36_1_l4 [3, 4, 5] (outT [(.exit 0, [3])]) (fun d K => A36_1_l4 (f36_1_l4 F) k d K) []
noncomputable def LT36_1 (F : Nat) : Nat → Option LoopS := ltab [(4, G36_1_4 F F)]
theorem L36_1_4 (F : Nat) : LoopOK Try.prog (T36_1 F) (xw []) 21 0 (LT36_1 F) (G36_1_4 F F) b36_0 :=
  loopOK_of (s := sh36_1_l4) (live := [3, 4, 5]) (out := (outT [(.exit 0, [3])])) (mv := []) (fun k d K => A36_1_l4 (f36_1_l4 F) k d K) F (fun d K => by kernel_rfl)  (fun k d K => by delta A36_1_l4; refine (f36_1_l4.eq_2 ..).trans ?_; delta T36_1 S44_1 LT36_1; generalize (G36_1_4 F F) = c;  (try delta G36_1_4); generalize (f44_1 F : Y44_1) = c, (f36_1_l4 F : Y36_1_l4) = c; as_aux_lemma => kernel_rfl)
theorem E36_1 (F : Nat) (d : sh36_1.den) (K : KF) : EB Try.prog (T36_1 F) (xw []) 21 0 (LT36_1 F) [] false Try.f36 sh36_1 d K = A36_1 (f36_1 F) d K := by delta A36_1 f36_1 T36_1 S44_1 LT36_1;  delta G36_1_4; generalize (f44_1 F : Y44_1) = c, (f36_1_l4 F : Y36_1_l4) = c; as_aux_lemma => kernel_rfl
theorem S36_1_ok : So Try.prog 36 S36_1 :=
  fun F o ho => sOf (fn := Try.f36) (c := code36) (tab_cons (S44_1_ok F _ (noS_sound enter44)) tab_nil) ho (by rw [loops36]; exact (loopsOK_cons (by kernel_rfl) (L36_1_4 F) loopsOK_nil)) snil rnil (E36_1 F)
end
section
noncomputable def f42_1 {β : Type} (F : Nat) (a1 a2 a3 a4 a5 : Int) (K0 : Int → Option β) : Option β := cond (a5 == 0) (K0 (IntKind.i64.wrap (2 * a3))) (cond (a5 == 1) (K0 (IntKind.i64.wrap (2 * a4))) (K0 (-1)))
variable [FZ]
def sh42_1 : Sh := ⟨[.agg [.int .i64, .int .i64, .int .i64, .int .i64], .lf (.int .i64)], []⟩
abbrev Y42_1 := Int → Int → Int → Int → Int → (Int → Option Res) → Option Res
noncomputable def A42_1 (g : Y42_1) (d : sh42_1.den) (K : KF) : Option Res := g d.1.1.1 d.1.1.2.1 d.1.1.2.2.1 d.1.1.2.2.2.1 d.1.2.1 (fun y0 => K [.lf (.int .i64 y0)] [])
noncomputable def S42_1 (F : Nat) (o : Summ) : Summ := mkS sh42_1 (fun d K => A42_1 (f42_1 F) d K) o
noncomputable def code42 : Code := bodyOf Try.f42
theorem enter42 : En Try.prog 42 := enO (fn := Try.f42)
noncomputable def T42_1 (F : Nat) : FuncId → Option Summ := tab []
noncomputable def LT42_1 (F : Nat) : Nat → Option LoopS := ltab []
theorem E42_1 (F : Nat) (d : sh42_1.den) (K : KF) : EB Try.prog (T42_1 F) (xw []) 15 0 (LT42_1 F) [] false Try.f42 sh42_1 d K = A42_1 (f42_1 F) d K := by delta A42_1 f42_1 T42_1 LT42_1;   as_aux_lemma => kernel_rfl
theorem S42_1_ok : So Try.prog 42 S42_1 :=
  fun F o ho => sOf (fn := Try.f42) (c := code42) tab_nil ho lnil snil rnil (E42_1 F)
end
section
noncomputable def f33_1 {β : Type} (F : Nat) (a1 a2 a3 a4 a5 : Int) (K0 : Int → Option β) : Option β := f42_1 F a1 a2 a3 a4 a5 (fun x1 => f32_1 F a1 a2 a3 a4 (fun x2 => cond (!x2) (K0 0) (cond (decide (x1 < 0)) (K0 0) (f36_1 F a1 a2 a3 a4 (fun x3 => K0 (IntKind.i64.wrap ((IntKind.i64.wrap ((IntKind.i64.wrap (6 + a1)) + x3)) + x1))) ))) ) 
variable [FZ]
def sh33_1 : Sh := ⟨[.agg [.int .i64, .int .i64, .int .i64, .int .i64], .lf (.int .i64)], []⟩
abbrev Y33_1 := Int → Int → Int → Int → Int → (Int → Option Res) → Option Res
noncomputable def A33_1 (g : Y33_1) (d : sh33_1.den) (K : KF) : Option Res := g d.1.1.1 d.1.1.2.1 d.1.1.2.2.1 d.1.1.2.2.2.1 d.1.2.1 (fun y0 => K [.lf (.int .i64 y0)] [])
noncomputable def S33_1 (F : Nat) (o : Summ) : Summ := mkS sh33_1 (fun d K => A33_1 (f33_1 F) d K) o
noncomputable def code33 : Code := bodyOf Try.f33
theorem enter33 : En Try.prog 33 := enO (fn := Try.f33)
noncomputable def T33_1 (F : Nat) : FuncId → Option Summ := tab [(32, (S32_1 F noS)), (36, (S36_1 F noS)), (42, (S42_1 F noS))]
noncomputable def LT33_1 (F : Nat) : Nat → Option LoopS := ltab []
theorem E33_1 (F : Nat) (d : sh33_1.den) (K : KF) : EB Try.prog (T33_1 F) (xw []) 24 0 (LT33_1 F) [] false Try.f33 sh33_1 d K = A33_1 (f33_1 F) d K := by delta A33_1 f33_1 T33_1 S32_1 S36_1 S42_1 LT33_1;  generalize (f32_1 F : Y32_1) = c, (f36_1 F : Y36_1) = c, (f42_1 F : Y42_1) = c; as_aux_lemma => kernel_rfl
theorem S33_1_ok : So Try.prog 33 S33_1 :=
  fun F o ho => sOf (fn := Try.f33) (c := code33) (tab_cons (S32_1_ok F _ (noS_sound enter32)) (tab_cons (S36_1_ok F _ (noS_sound enter36)) (tab_cons (S42_1_ok F _ (noS_sound enter42)) tab_nil))) ho lnil snil rnil (E33_1 F)
end
section
noncomputable def f22_1 {β : Type} (F : Nat) (a1 a2 a3 a4 a5 : Int) (K0 : Nat → Option β) (K1 : Option β) : Option β := f33_1 F a1 a2 a3 a4 a5 (fun x1 => fquo .f64 (FloatKind.f64.nearest a1) (FloatKind.f64.nearest x1) (fun x2 => K0 x2) (K1)) 
variable [FZ]
def sh22_1 : Sh := ⟨[.agg [.int .i64, .int .i64, .int .i64, .int .i64], .lf (.int .i64)], []⟩
abbrev Y22_1 := Int → Int → Int → Int → Int → (Nat → Option Res) → (Option Res) → Option Res
noncomputable def A22_1 (g : Y22_1) (d : sh22_1.den) (K : KF) : Option Res := g d.1.1.1 d.1.1.2.1 d.1.1.2.2.1 d.1.1.2.2.2.1 d.1.2.1 (fun y0 => K [.lf (.flt .f64 y0)] []) (K [.lf (.nan .f64)] [])
noncomputable def S22_1 (F : Nat) (o : Summ) : Summ := mkS sh22_1 (fun d K => A22_1 (f22_1 F) d K) o
noncomputable def code22 : Code := bodyOf Try.f22
theorem enter22 : En Try.prog 22 := enO (fn := Try.f22)
noncomputable def T22_1 (F : Nat) : FuncId → Option Summ := tab [(33, (S33_1 F noS))]
noncomputable def LT22_1 (F : Nat) : Nat → Option LoopS := ltab []
theorem E22_1 (F : Nat) (d : sh22_1.den) (K : KF) : EB Try.prog (T22_1 F) (xw []) 17 0 (LT22_1 F) [] false Try.f22 sh22_1 d K = A22_1 (f22_1 F) d K := by delta A22_1 f22_1 T22_1 S33_1 LT22_1;  generalize (f33_1 F : Y33_1) = c; as_aux_lemma => kernel_rfl
theorem S22_1_ok : So Try.prog 22 S22_1 :=
  fun F o ho => sOf (fn := Try.f22) (c := code22) (tab_cons (S33_1_ok F _ (noS_sound enter33)) tab_nil) ho lnil snil rnil (E22_1 F)
end
section
noncomputable def f24_1 {β : Type} (F : Nat) (a1 a2 a3 a4 : Int) (K0 : Int → Option β) : Option β := f32_1 F a1 a2 a3 a4 (fun x1 => cond (!x1) (K0 0) (f36_1 F a1 a2 a3 a4 (fun x2 => K0 (IntKind.i64.wrap (a1 + x2))) )) 
variable [FZ]
def sh24_1 : Sh := ⟨[.agg [.int .i64, .int .i64, .int .i64, .int .i64]], []⟩
abbrev Y24_1 := Int → Int → Int → Int → (Int → Option Res) → Option Res
noncomputable def A24_1 (g : Y24_1) (d : sh24_1.den) (K : KF) : Option Res := g d.1.1.1 d.1.1.2.1 d.1.1.2.2.1 d.1.1.2.2.2.1 (fun y0 => K [.lf (.int .i64 y0)] [])
noncomputable def S24_1 (F : Nat) (o : Summ) : Summ := mkS sh24_1 (fun d K => A24_1 (f24_1 F) d K) o
noncomputable def code24 : Code := bodyOf Try.f24
theorem enter24 : En Try.prog 24 := enO (fn := Try.f24)
noncomputable def T24_1 (F : Nat) : FuncId → Option Summ := tab [(32, (S32_1 F noS)), (36, (S36_1 F noS))]
noncomputable def LT24_1 (F : Nat) : Nat → Option LoopS := ltab []
theorem E24_1 (F : Nat) (d : sh24_1.den) (K : KF) : EB Try.prog (T24_1 F) (xw []) 11 0 (LT24_1 F) [] false Try.f24 sh24_1 d K = A24_1 (f24_1 F) d K := by delta A24_1 f24_1 T24_1 S32_1 S36_1 LT24_1;  generalize (f32_1 F : Y32_1) = c, (f36_1 F : Y36_1) = c; as_aux_lemma => kernel_rfl
theorem S24_1_ok : So Try.prog 24 S24_1 :=
  fun F o ho => sOf (fn := Try.f24) (c := code24) (tab_cons (S32_1_ok F _ (noS_sound enter32)) (tab_cons (S36_1_ok F _ (noS_sound enter36)) tab_nil)) ho lnil snil rnil (E24_1 F)
end
section
noncomputable def f37_1 {β : Type} (F : Nat) (a1 a2 a3 a4 : Int) (K0 : Int → Option β) : Option β := f43_1 F a1 a2 a3 a4 (fun x1 => K0 (if IntKind.i64.wrap (((x1.length : Nat) : Int) - 1) > 0 then IntKind.i64.wrap (((x1.length : Nat) : Int) - 1) else 0)) 
variable [FZ]
def sh37_1 : Sh := ⟨[.agg [.int .i64, .int .i64, .int .i64, .int .i64]], []⟩
abbrev Y37_1 := Int → Int → Int → Int → (Int → Option Res) → Option Res
noncomputable def A37_1 (g : Y37_1) (d : sh37_1.den) (K : KF) : Option Res := g d.1.1.1 d.1.1.2.1 d.1.1.2.2.1 d.1.1.2.2.2.1 (fun y0 => K [.lf (.int .i64 y0)] [])
noncomputable def S37_1 (F : Nat) (o : Summ) : Summ := mkS sh37_1 (fun d K => A37_1 (f37_1 F) d K) o
noncomputable def code37 : Code := bodyOf Try.f37
theorem enter37 : En Try.prog 37 := enO (fn := Try.f37)
noncomputable def T37_1 (F : Nat) : FuncId → Option Summ := tab [(43, (S43_1 F noS))]
noncomputable def LT37_1 (F : Nat) : Nat → Option LoopS := ltab []
theorem E37_1 (F : Nat) (d : sh37_1.den) (K : KF) : EB Try.prog (T37_1 F) (xw []) 8 0 (LT37_1 F) [] false Try.f37 sh37_1 d K = A37_1 (f37_1 F) d K := by delta A37_1 f37_1 T37_1 S43_1 LT37_1;  generalize (f43_1 F : Y43_1) = c; as_aux_lemma => kernel_rfl
theorem S37_1_ok : So Try.prog 37 S37_1 :=
  fun F o ho => sOf (fn := Try.f37) (c := code37) (tab_cons (S43_1_ok F _ (noS_sound enter43)) tab_nil) ho lnil snil rnil (E37_1 F)
end
section
noncomputable def f25_1 {β : Type} (F : Nat) (a1 a2 a3 a4 a5 : Int) (K0 : Int → Option β) : Option β := f31_1 F a1 a2 a3 a4 (fun x1 => cond (!x1) (K0 0) (cond (decide (a5 < 0)) (K0 0) (cond (decide (a5 > a1)) (K0 0) (f37_1 F a1 a2 a3 a4 (fun x2 => K0 (IntKind.i64.wrap (1 + (IntKind.i64.wrap ((IntKind.i64.wrap (a2 * x2)) * a5))))) )))) 
variable [FZ]
def sh25_1 : Sh := ⟨[.agg [.int .i64, .int .i64, .int .i64, .int .i64], .lf (.int .i64)], []⟩
abbrev Y25_1 := Int → Int → Int → Int → Int → (Int → Option Res) → Option Res
noncomputable def A25_1 (g : Y25_1) (d : sh25_1.den) (K : KF) : Option Res := g d.1.1.1 d.1.1.2.1 d.1.1.2.2.1 d.1.1.2.2.2.1 d.1.2.1 (fun y0 => K [.lf (.int .i64 y0)] [])
noncomputable def S25_1 (F : Nat) (o : Summ) : Summ := mkS sh25_1 (fun d K => A25_1 (f25_1 F) d K) o
noncomputable def code25 : Code := bodyOf Try.f25
theorem enter25 : En Try.prog 25 := enO (fn := Try.f25)
noncomputable def T25_1 (F : Nat) : FuncId → Option Summ := tab [(31, (S31_1 F noS)), (37, (S37_1 F noS))]
noncomputable def LT25_1 (F : Nat) : Nat → Option LoopS := ltab []
theorem E25_1 (F : Nat) (d : sh25_1.den) (K : KF) : EB Try.prog (T25_1 F) (xw []) 26 0 (LT25_1 F) [] false Try.f25 sh25_1 d K = A25_1 (f25_1 F) d K := by delta A25_1 f25_1 T25_1 S31_1 S37_1 LT25_1;  generalize (f31_1 F : Y31_1) = c, (f37_1 F : Y37_1) = c; as_aux_lemma => kernel_rfl
theorem S25_1_ok : So Try.prog 25 S25_1 :=
  fun F o ho => sOf (fn := Try.f25) (c := code25) (tab_cons (S31_1_ok F _ (noS_sound enter31)) (tab_cons (S37_1_ok F _ (noS_sound enter37)) tab_nil)) ho lnil snil rnil (E25_1 F)
end
section
noncomputable def f38_1 {β : Type} (F : Nat) (a1 a2 a3 a4 : Int) (K0 : Int → Option β) : Option β := f44_1 F a1 a2 a3 a4 (fun x1 => K0 (if 0 > IntKind.i64.wrap (((x1.length : Nat) : Int) - 1) then 0 else IntKind.i64.wrap (((x1.length : Nat) : Int) - 1))) 
variable [FZ]
def sh38_1 : Sh := ⟨[.agg [.int .i64, .int .i64, .int .i64, .int .i64]], []⟩
abbrev Y38_1 := Int → Int → Int → Int → (Int → Option Res) → Option Res
noncomputable def A38_1 (g : Y38_1) (d : sh38_1.den) (K : KF) : Option Res := g d.1.1.1 d.1.1.2.1 d.1.1.2.2.1 d.1.1.2.2.2.1 (fun y0 => K [.lf (.int .i64 y0)] [])
noncomputable def S38_1 (F : Nat) (o : Summ) : Summ := mkS sh38_1 (fun d K => A38_1 (f38_1 F) d K) o
noncomputable def code38 : Code := bodyOf Try.f38
theorem enter38 : En Try.prog 38 := enO (fn := Try.f38)
noncomputable def T38_1 (F : Nat) : FuncId → Option Summ := tab [(44, (S44_1 F noS))]
noncomputable def LT38_1 (F : Nat) : Nat → Option LoopS := ltab []
theorem E38_1 (F : Nat) (d : sh38_1.den) (K : KF) : EB Try.prog (T38_1 F) (xw []) 8 0 (LT38_1 F) [] false Try.f38 sh38_1 d K = A38_1 (f38_1 F) d K := by delta A38_1 f38_1 T38_1 S44_1 LT38_1;  generalize (f44_1 F : Y44_1) = c; as_aux_lemma => kernel_rfl
theorem S38_1_ok : So Try.prog 38 S38_1 :=
  fun F o ho => sOf (fn := Try.f38) (c := code38) (tab_cons (S44_1_ok F _ (noS_sound enter44)) tab_nil) ho lnil snil rnil (E38_1 F)
end
section
noncomputable def f26_1 {β : Type} (F : Nat) (a1 a2 a3 a4 a5 : Int) (K0 : Int → Option β) : Option β := f32_1 F a1 a2 a3 a4 (fun x1 => cond (!x1) (K0 0) (cond (decide (a5 < 0)) (K0 0) (cond (decide (a5 > a1)) (K0 0) (f38_1 F a1 a2 a3 a4 (fun x2 => K0 (IntKind.i64.wrap (1 + (IntKind.i64.wrap ((IntKind.i64.wrap (a2 * x2)) * a5))))) )))) 
variable [FZ]
def sh26_1 : Sh := ⟨[.agg [.int .i64, .int .i64, .int .i64, .int .i64], .lf (.int .i64)], []⟩
abbrev Y26_1 := Int → Int → Int → Int → Int → (Int → Option Res) → Option Res
noncomputable def A26_1 (g : Y26_1) (d : sh26_1.den) (K : KF) : Option Res := g d.1.1.1 d.1.1.2.1 d.1.1.2.2.1 d.1.1.2.2.2.1 d.1.2.1 (fun y0 => K [.lf (.int .i64 y0)] [])
noncomputable def S26_1 (F : Nat) (o : Summ) : Summ := mkS sh26_1 (fun d K => A26_1 (f26_1 F) d K) o
noncomputable def code26 : Code := bodyOf Try.f26
theorem enter26 : En Try.prog 26 := enO (fn := Try.f26)
noncomputable def T26_1 (F : Nat) : FuncId → Option Summ := tab [(32, (S32_1 F noS)), (38, (S38_1 F noS))]
noncomputable def LT26_1 (F : Nat) : Nat → Option LoopS := ltab []
theorem E26_1 (F : Nat) (d : sh26_1.den) (K : KF) : EB Try.prog (T26_1 F) (xw []) 26 0 (LT26_1 F) [] false Try.f26 sh26_1 d K = A26_1 (f26_1 F) d K := by delta A26_1 f26_1 T26_1 S32_1 S38_1 LT26_1;  generalize (f32_1 F : Y32_1) = c, (f38_1 F : Y38_1) = c; as_aux_lemma => kernel_rfl
theorem S26_1_ok : So Try.prog 26 S26_1 :=
  fun F o ho => sOf (fn := Try.f26) (c := code26) (tab_cons (S32_1_ok F _ (noS_sound enter32)) (tab_cons (S38_1_ok F _ (noS_sound enter38)) tab_nil)) ho lnil snil rnil (E26_1 F)
end
section
noncomputable def f6_1 {β : Type} (F : Nat) (a1 a2 a3 a4 a5 a6 : Int) (K0 : Bool → Option β) : Option β := f21_1 F a1 a2 a3 a4 a6 (fun x1 => f22_1 F a1 a2 a3 a4 a6 (fun x2 => f23_1 F a1 a2 a3 a4 (fun x3 => f24_1 F a1 a2 a3 a4 (fun x4 => cond (x3 == x4) (f25_1 F a1 a2 a3 a4 a5 (fun x5 => f26_1 F a1 a2 a3 a4 a5 (fun x6 => cond (x5 == x6) (cond (FloatKind.f64.format.order x1 x2 == some .eq) (f17_1 F  (fun x7 => K0 x7) ) (cond (FloatKind.f64.format.order x1 x1 != some .eq) (cond (FloatKind.f64.format.order x2 x2 != some .eq) (f17_1 F  (fun x8 => K0 x8) ) (K0 false)) (K0 false))) (K0 false)) ) ) (K0 false)) ) ) (f23_1 F a1 a2 a3 a4 (fun x9 => f24_1 F a1 a2 a3 a4 (fun x10 => cond (x9 == x10) (f25_1 F a1 a2 a3 a4 a5 (fun x11 => f26_1 F a1 a2 a3 a4 a5 (fun x12 => cond (x11 == x12) (cond (FloatKind.f64.format.order x1 x1 != some .eq) (f17_1 F  (fun x13 => K0 x13) ) (K0 false)) (K0 false)) ) ) (K0 false)) ) ) ) (f22_1 F a1 a2 a3 a4 a6 (fun x14 => f23_1 F a1 a2 a3 a4 (fun x15 => f24_1 F a1 a2 a3 a4 (fun x16 => cond (x15 == x16) (f25_1 F a1 a2 a3 a4 a5 (fun x17 => f26_1 F a1 a2 a3 a4 a5 (fun x18 => cond (x17 == x18) (cond (FloatKind.f64.format.order x14 x14 != some .eq) (f17_1 F  (fun x19 => K0 x19) ) (K0 false)) (K0 false)) ) ) (K0 false)) ) ) (f23_1 F a1 a2 a3 a4 (fun x20 => f24_1 F a1 a2 a3 a4 (fun x21 => cond (x20 == x21) (f25_1 F a1 a2 a3 a4 a5 (fun x22 => f26_1 F a1 a2 a3 a4 a5 (fun x23 => cond (x22 == x23) (f17_1 F  (fun x24 => K0 x24) ) (K0 false)) ) ) (K0 false)) ) ) ) 
variable [FZ]
def sh6_1 : Sh := ⟨[.agg [.int .i64, .int .i64, .int .i64, .int .i64], .lf (.int .i64), .lf (.int .i64)], []⟩
abbrev Y6_1 := Int → Int → Int → Int → Int → Int → (Bool → Option Res) → Option Res
noncomputable def A6_1 (g : Y6_1) (d : sh6_1.den) (K : KF) : Option Res := g d.1.1.1 d.1.1.2.1 d.1.1.2.2.1 d.1.1.2.2.2.1 d.1.2.1 d.1.2.2.1 (fun y0 => K [.lf (.bool y0)] [])
noncomputable def S6_1 (F : Nat) (o : Summ) : Summ := mkS sh6_1 (fun d K => A6_1 (f6_1 F) d K) o
noncomputable def code6 : Code := bodyOf Try.f6
theorem enter6 : En Try.prog 6 := enO (fn := Try.f6)
noncomputable def T6_1 (F : Nat) : FuncId → Option Summ := tab [(17, (S17_1 F noS)), (21, (S21_1 F noS)), (22, (S22_1 F noS)), (23, (S23_1 F noS)), (24, (S24_1 F noS)), (25, (S25_1 F noS)), (26, (S26_1 F noS))]
noncomputable def LT6_1 (F : Nat) : Nat → Option LoopS := ltab []
theorem E6_1 (F : Nat) (d : sh6_1.den) (K : KF) : EB Try.prog (T6_1 F) (xw []) 47 0 (LT6_1 F) [] false Try.f6 sh6_1 d K = A6_1 (f6_1 F) d K := by delta A6_1 f6_1 T6_1 S17_1 S21_1 S22_1 S23_1 S24_1 S25_1 S26_1 LT6_1;  generalize (f17_1 F : Y17_1) = c, (f21_1 F : Y21_1) = c, (f22_1 F : Y22_1) = c, (f23_1 F : Y23_1) = c, (f24_1 F : Y24_1) = c, (f25_1 F : Y25_1) = c, (f26_1 F : Y26_1) = c; as_aux_lemma => kernel_rfl
theorem S6_1_ok : So Try.prog 6 S6_1 :=
  fun F o ho => sOf (fn := Try.f6) (c := code6) (tab_cons (S17_1_ok F _ (noS_sound enter17)) (tab_cons (S21_1_ok F _ (noS_sound enter21)) (tab_cons (S22_1_ok F _ (noS_sound enter22)) (tab_cons (S23_1_ok F _ (noS_sound enter23)) (tab_cons (S24_1_ok F _ (noS_sound enter24)) (tab_cons (S25_1_ok F _ (noS_sound enter25)) (tab_cons (S26_1_ok F _ (noS_sound enter26)) tab_nil))))))) ho lnil snil rnil (E6_1 F)
end
end Go.Proofs.Ytjhpadklfeipaaa.X
end
section
namespace Go.Proofs.Ytjhpadklfeipaaa.Ev
open Go Go.RowKit
set_option linter.unusedVariables false
set_option linter.unusedSimpArgs false
set_option linter.unusedSectionVars false
section
variable [FZ]
def scK (P : Program) (e : TypeId) : Option EK := match P.underlying e with
  | some (.int k) => some (.int k)
  | some .bool => some .bool
  | some .string => some .str
  | _ => none
def scS (P : Program) (e : TypeId) : Option SK := match P.underlying e with
  | some (.int k) => some (.int k)
  | some .bool => some .bool
  | some .string => some .str
  | _ => none
def wfS : (q : SK) → q.den → Prop
  | .int k, n => (Lit.int k n).wf = true
  | .bool, _ => True
  | .str, s => s.size ≤ maxLen
def wfE : (k : EK) → k.den → Prop
  | .int k, n => (Lit.int k n).wf = true
  | .bool, _ => True
  | .str, s => s.size ≤ maxLen
  | .pair a b, p => wfE a p.1 ∧ wfE b p.2
  | .sl q, x => x.dat.length ≤ maxLen ∧ ∀ y ∈ x.dat, wfS q y
def wfD : (s : SL) → s.den → Prop
  | .int k, n => (Lit.int k n).wf = true
  | .str, s => s.size ≤ maxLen
  | .seq k n, l => l.length = n ∧ ∀ x ∈ l, wfE k x
  | .sl q, x => wfE (.sl q) x
  | _, _ => True
def wfL : (l : List SL) → denL l → Prop
  | [], _ => True
  | s :: r, d => wfD s d.1 ∧ wfL r d.2
def appD : (a b : List SL) → denL a → denL b → denL (a ++ b)
  | [], _, _, y => y
  | _ :: r, b, x, y => (x.1, appD r b x.2 y)
theorem encL_app : ∀ (a b : List SL) (x : denL a) (y : denL b), encL (a ++ b) (appD a b x y) = encL a x ++ encL b y
  | [], _, _, _ => rfl
  | s :: r, b, x, y => by
    show s.enc x.1 :: encL (r ++ b) (appD r b x.2 y) = s.enc x.1 :: (encL r x.2 ++ encL b y)
    rw [encL_app r b]
theorem wfL_app : ∀ (a b : List SL) (x : denL a) (y : denL b), wfL a x → wfL b y → wfL (a ++ b) (appD a b x y)
  | [], _, _, _, _, h => h
  | s :: r, b, x, y, hx, hy => ⟨hx.1, wfL_app r b x.2 y hx.2 hy⟩
section
variable (P : Program)
def slFs (g : TypeId → Option (List SL)) : Nat → List Field → Option (List SL × Nat)
  | off, [] => some ([], off)
  | off, f :: r => if f.offset = off then (match g f.type, slFs g (off + P.cellsOf f.type) r with
    | some a, some (b, n) => some (a ++ b, n)
    | _, _ => none) else none
def slOf : Nat → TypeId → Option (List SL)
  | 0, _ => none
  | f + 1, t => match P.underlying t with
    | some (.int k) => some [.int k]
    | some .bool => some [.bool]
    | some .string => some [.str]
    | some (.array n e) => match scK P e with
      | some k => if P.cellsOf e = 1 ∧ P.cellsOf t = n then some [.seq k n] else none
      | none => none
    | some (.struct fs) => match slFs P (slOf f) 0 fs.toList with
      | some (l, n) => if n = P.cellsOf t then some l else none
      | none => none
    | some (.slice e) => match scS P e with
      | some q => if P.cellsOf e = 1 then some [.sl q] else none
      | none => none
    | _ => none
end
theorem pick_list {α : Type} {n : Nat} {R : Nat → α → Prop} (h : ∀ i, i < n → ∃ z, R i z) : ∃ l : List α, l.length = n ∧ ∀ i z, l[i]? = some z → R i z := by
  induction n with
  | zero => exact ⟨[], rfl, fun i z h => by simp at h⟩
  | succ n ih =>
    obtain ⟨l, h1, h2⟩ := ih fun i hi => h i (by omega)
    obtain ⟨z, hz⟩ := h n (by omega)
    refine ⟨l ++ [z], by simp [h1], fun i y hy => ?_⟩
    by_cases hi : i < n
    · rw [List.getElem?_append_left (by omega)] at hy; exact h2 i y hy
    · rw [List.getElem?_append_right (by omega)] at hy
      have : i = n := by
        have := (List.getElem?_eq_some_iff.1 hy).1
        simp at this; omega
      subst this
      rw [h1, Nat.sub_self] at hy
      cases hy; exact hz
theorem addr_add2 (a : Addr) (x y : Nat) : (a.add x).add y = a.add (x + y) := by
  unfold Addr.add
  by_cases hx : x = 0
  · subst hx; simp
  · by_cases hy : y = 0
    · subst hy; simp
    · simp [hx, hy, Nat.add_assoc]
theorem addr_add {a : Addr} (h : a.spot = none) (q : Nat) : a.add q = ⟨a.block, a.off + q, none⟩ := by
  cases a; simp only at h; subst h
  unfold Addr.add
  split
  · rename_i h; subst h; simp
  · simp
structure Shown (w : World) (k : EK) (l : List k.den) (g : Gh) (v : Value) : Prop where
  len : l.length ≤ maxLen
  wf : ∀ x ∈ l, wfE k x
  obj : ∀ m, ObRel m g w ⟨true, [.seq k 0 l]⟩
  blk : ∀ b, g.addr = some b → b.1 < w.heap.size
  rel : ∀ (m : GM) id, m[id]? = some g → LRel m (.full id) v
theorem ghOf_ln (b : Option (Nat × Nat)) (sz : Nat) (k : EK) (l : List k.den) : (ghOf b sz [.seq k 0 l]).ln 0 = l.length ∧ (ghOf b sz [.seq k 0 l]).ew 0 = k.w := by
  obtain ⟨h1, h2⟩ := ghOf_seq b sz [.seq k 0 l] 0 k 0 l [] (drop0 _)
  exact ⟨h1.symm, h2.symm⟩
theorem shown_none (w : World) (k : EK) {a : Option Addr} : Shown w k [] (ghOf none 0 [.seq k 0 []]) (.slice a 0 0) := by
  refine ⟨Nat.zero_le _, fun x hx => (by cases hx), fun m => ⟨ghOf_seq _ _ _, [], ⟨[], [], rfl, ⟨.inl rfl, rfl⟩, rfl⟩, .inl ⟨rfl, rfl⟩⟩, fun b hb => (by cases hb), fun m id hid => ?_⟩
  exact ⟨_, hid, _, a, 0, hid, by rw [(ghOf_ln none 0 k []).1]; rfl, by rw [(ghOf_ln none 0 k []).1]; simp, fun c h => (by cases h), by rw [(ghOf_ln none 0 k []).1]; simp, .inl rfl⟩
section
variable {P : Program} {H : Type} {enc : TypeId × Value → H} {w : World} {base : Nat} {spare : Nat → Bool} {held : Bool}
def Opn (m : GM) (sl : List SL) (cs : List Value) (ps : List MemPlace) : Prop := ∃ d : denL sl, OCells m (encL sl d) cs ∧ wfL sl d
theorem sc_open {e : TypeId} {k : EK} {fuel : Nat} {c : List Value} {x : DataW H × List MemPlace} (hk : scK P e = some k) (h : DataW.trod enc P w base spare held fuel e c = some x) :
    ∃ z : k.den, c = k.cv z ∧ wfE k z ∧ x.2 = [] := by
  unfold scK at hk
  split at hk
  · rename_i k' ht
    cases hk
    obtain ⟨n, rfl, rfl, hw⟩ := DataW.trod_int ht h
    exact ⟨n, rfl, hw, rfl⟩
  · rename_i ht
    cases hk
    obtain ⟨b, rfl, rfl⟩ := DataW.trod_bool ht h
    exact ⟨b, rfl, trivial, rfl⟩
  · rename_i ht
    cases hk
    obtain ⟨s, rfl, rfl, hs⟩ := DataW.trod_string ht h
    exact ⟨s, rfl, hs, rfl⟩
  · cases hk
theorem sc_list {e : TypeId} {k : EK} {fuel : Nat} (hk : scK P e = some k) : ∀ (n : Nat) (cs : List Value) (xs : List (DataW H × List MemPlace)), cs.length = n → xs.length = n →
    (∀ i, i < n → DataW.trod enc P w base spare held fuel e ((cs.drop i).take 1) = xs[i]?) → ∃ l : List k.den, cs = cvs k l ∧ l.length = n ∧ (∀ x ∈ l, wfE k x) ∧ xs.flatMap (·.2) = []
  | 0, cs, xs, hc, hx, _ => by
    have := List.eq_nil_of_length_eq_zero hc
    have h2 := List.eq_nil_of_length_eq_zero hx
    subst this; subst h2
    exact ⟨[], rfl, rfl, fun x hx => (by cases hx), rfl⟩
  | n + 1, [], xs, hc, hx, _ => by simp at hc
  | n + 1, c :: cs, [], hc, hx, _ => by simp at hx
  | n + 1, c :: cs, x :: xs, hc, hx, h => by
    have h0 := h 0 (by omega)
    simp only [List.drop_zero, List.take_succ_cons, List.take_zero, List.getElem?_cons_zero] at h0
    obtain ⟨z, hz, hw, hp⟩ := sc_open hk h0
    obtain ⟨l, h1, h2, h3, h4⟩ := sc_list hk n cs xs (by simpa using hc) (by simpa using hx) fun i hi => by simpa using h (i + 1) (by omega)
    refine ⟨z :: l, ?_, by simp [h2], fun y hy => ?_, by simp [hp, h4]⟩
    · rw [h1] ; simp only [cvs, ← hz]; rfl
    · rcases List.mem_cons.1 hy with rfl | hy
      · exact hw
      · exact h3 y hy
theorem slice_core {e t : TypeId} {k : EK} (ht : P.underlying t = some (.slice e)) (hc : P.cellsOf e = k.w) (el : ∀ n cs (x : DataW H × List MemPlace), DataW.trod enc P w 0 (fun _ => true) held n e cs = some x → ∃ z : k.den, cs = k.cv z ∧ wfE k z)
    {a0 : Option Addr} {n0 c0 fuel : Nat} {x : DataW H × List MemPlace} (hf : DataW.trod enc P w 0 (fun _ => true) held fuel t [.slice a0 n0 c0] = some x) :
    ∃ (l : List k.den) (g : Gh), Shown w k l g (.slice a0 n0 c0) := by
  rcases DataW.trod_slice ht hf with ⟨h1, _⟩ | ⟨a, len, cap, elems, rest, n, _, h1, hx, hb, hle, hmax, hlen, hel, hsp, _⟩
  · cases h1
    exact ⟨[], _, shown_none w k⟩
  · simp only [List.cons.injEq, Value.slice.injEq, and_true] at h1
    obtain ⟨rfl, rfl, rfl⟩ := h1
    obtain ⟨hrl, hr⟩ := hsp rfl
    by_cases hcap : c0 = 0
    · subst hcap
      have : n0 = 0 := by omega
      subst this
      exact ⟨[], _, shown_none w k⟩
    have each : ∀ i, i < c0 → ∃ z : k.den, wfE k z ∧ ∀ j, j < k.w → w.cell? (a.add (i * k.w + j)) = (k.cv z)[j]? := by
      intro i hi
      obtain ⟨y, hy⟩ : ∃ y, (w.cells? 0 (a.add (i * P.cellsOf e)) (P.cellsOf e)).bind (DataW.trod enc P w 0 (fun _ => true) held n e) = some y := by
        by_cases hil : i < n0
        · exact ⟨_, (hel i hil).trans (List.getElem?_eq_getElem (by omega))⟩
        · have h2 := hr (i - n0) (by omega)
          rw [show n0 + (i - n0) = i by omega] at h2
          exact ⟨_, h2.trans (List.getElem?_eq_getElem (by omega))⟩
      rw [hc, Option.bind_eq_some_iff] at hy
      obtain ⟨cs, hcs, hy⟩ := hy
      obtain ⟨z, hcv, hwz⟩ := el n cs _ hy
      obtain ⟨_, _, hget⟩ := World.cells?_some hcs
      refine ⟨z, hwz, fun j hj => ?_⟩
      have := hget j hj
      rw [hcv] at this
      rw [← this]
      have e9 : (a.add (i * k.w)).add j = a.add (i * k.w + j) := addr_add2 a _ _
      first | rw [e9] | rw [hc, e9]
    obtain ⟨l, hl1, hl2⟩ := pick_list (n := n0) (R := fun i z => wfE k z ∧ ∀ j, j < k.w → w.cell? (a.add (i * k.w + j)) = (k.cv z)[j]?) fun i hi => each i (by omega)
    have hwp := EK.w_pos k
    have cellOf : ∀ q, q < c0 * k.w → ∃ u, w.cell? (a.add q) = some u := by
      intro q hq
      have hdiv : q / k.w < c0 := Nat.div_lt_of_lt_mul (by rw [Nat.mul_comm]; exact hq)
      obtain ⟨z, _, hz⟩ := each (q / k.w) hdiv
      have h3 := hz (q % k.w) (Nat.mod_lt _ hwp)
      rw [Nat.mul_comm, Nat.div_add_mod] at h3
      have : q % k.w < (k.cv z).length := by rw [cv_length]; exact Nat.mod_lt _ hwp
      rw [List.getElem?_eq_getElem this] at h3
      exact ⟨_, h3⟩
    have hpos : 0 < c0 * k.w := Nat.mul_pos (by omega) hwp
    obtain ⟨blk, ty, fr, hblk, hspot, hget⟩ : ∃ blk ty fr, w.heap[a.block]? = some (.cells blk ty fr) ∧ a.spot = none ∧ ∀ q, w.cell? (a.add q) = blk[a.off + q]? := by
      obtain ⟨u, hu⟩ := cellOf 0 hpos
      rw [show a.add 0 = a by simp [Addr.add]] at hu
      unfold World.cell? at hu
      split at hu
      · rename_i c ty fr hh
        have hh' : w.heap[a.block]? = some (.cells c ty fr) := hh
        split at hu
        · cases hu
        · rename_i hsn
          have hsn' : a.spot = none := by
            cases hq : a.spot with
            | none => rfl
            | some _ => exact absurd (by simp [hq]) hsn
          refine ⟨c, ty, fr, hh', hsn', fun q => ?_⟩
          rw [addr_add hsn' q]
          unfold World.cell?
          simp only [hh']
          rfl
      · cases hu
    have hsize : a.off + c0 * k.w ≤ blk.size := by
      obtain ⟨u, hu⟩ := cellOf (c0 * k.w - 1) (by omega)
      rw [hget] at hu
      have := (Array.getElem?_eq_some_iff.1 hu).1
      omega
    obtain ⟨g1, g2⟩ := ghOf_ln (some (a.block, a.off)) blk.size k l
    have haddr : a = at_ (a.block, a.off) 0 := by
      cases a; simp only at hspot; subst hspot; simp [at_]
    have hcl : (cvs k l).length = n0 * k.w := by rw [cvs_length, hl1]
    have hmul : n0 * k.w ≤ c0 * k.w := Nat.mul_le_mul_right _ hle
    refine ⟨l, ghOf (some (a.block, a.off)) blk.size [.seq k 0 l], by omega, fun x hx => ?_, fun m => ⟨ghOf_seq _ _ _, cvs k l, ⟨cvs k l, [], (List.append_nil _).symm, ⟨.inl rfl, rfl⟩, rfl⟩, .inr ⟨(a.block, a.off), blk, ty, fr, rfl, hblk, rfl, ?_, fun j hj => ?_, fun h0 => by cases h0⟩⟩, fun b hb => ?_, fun m id hid => ?_⟩
    · obtain ⟨i, hi⟩ := List.getElem?_of_mem hx
      exact (hl2 i x hi).1
    · rw [hcl]; simp only [ghOf]; omega
    · rw [hcl] at hj
      have hdiv : j / k.w < n0 := Nat.div_lt_of_lt_mul (by rw [Nat.mul_comm]; exact hj)
      have hmod := Nat.mod_lt j hwp
      have h4 := (hl2 (j / k.w) (l.getD (j / k.w) k.zero) (by rw [List.getD_eq_getElem?_getD, List.getElem?_eq_getElem (by omega)]; rfl)).2 (j % k.w) hmod
      have h5 := cvs_getD k l (j / k.w) (by omega) (j % k.w) hmod
      rw [Nat.mul_comm, Nat.div_add_mod] at h4 h5
      rw [hget] at h4
      rw [h5]; exact h4
    · cases hb; exact (Array.getElem?_eq_some_iff.1 hblk).1
    · refine ⟨_, hid, _, some a, c0, hid, by rw [g1, hl1], by rw [g1]; omega, fun c h => (by cases h), by rw [g1]; simp, .inr ⟨(a.block, a.off), rfl, ?_, ?_⟩⟩
      · simp only [Nat.zero_mul, Nat.add_zero]; rw [← haddr]
      · rw [g2]; simp only [ghOf, Nat.zero_add, Nat.add_zero]; omega
theorem shown_fz {q : SK} {l : List q.ek.den} {g : Gh} {a0 : Option Addr} {n0 c0 : Nat} (h : Shown w q.ek l g (.slice a0 n0 c0)) : n0 = l.length ∧ FzW (Ctx.of w fun _ => False) a0 c0 (cvs q.ek l) := by
  have hrel := h.rel [g] 0 rfl
  obtain ⟨g1, hg1, g2, A, C, hg2, hv, hle, _, hln, hb⟩ := hrel
  cases hg1
  cases hg2
  cases hv
  obtain ⟨hsg, cs, hoc, hpl⟩ := h.obj []
  have hlen := (hsg 0 q.ek 0 l [] (drop0 _)).1
  have hew := (hsg 0 q.ek 0 l [] (drop0 _)).2
  obtain ⟨_, _, rfl, ⟨_, rfl⟩, rfl⟩ := hoc
  rw [List.append_nil] at hpl
  refine ⟨by rw [hlen], ?_⟩
  have hcl : (cvs q.ek l).length = l.length := by rw [cvs_length, ek_w, Nat.mul_one]
  rcases hb with hb | ⟨b, hb, hA, hsz⟩
  · refine .inl ⟨hb, ?_⟩
    have : l = [] := List.eq_nil_of_length_eq_zero (by omega)
    rw [this]; rfl
  · rcases hpl with ⟨_, h0⟩ | ⟨b', blk, t, fr, p1, p2, p3, p4, p5, _⟩
    · rw [hb] at h0; cases h0
    · rw [hb] at p1; cases p1
      rw [← hew, ek_w] at hsz
      refine .inr ⟨b, blk, t, fr, by rw [hA]; simp, p2, by omega, by omega, p5, fun h0 => h0⟩
theorem toL_inv (q : SK) (l : List q.ek.den) : ∃ d : List q.den, q.toL d = l := by
  cases q <;> exact ⟨l, rfl⟩
theorem wfS_toL {q : SK} {d : List q.den} (h : ∀ x ∈ q.toL d, wfE q.ek x) : ∀ x ∈ d, wfS q x := by
  cases q <;> exact h
theorem sc_ek {e : TypeId} {q : SK} (h : scS P e = some q) : scK P e = some q.ek := by
  unfold scS at h
  unfold scK
  split at h
  · rename_i k ht; cases h; simp only [ht]
  · rename_i ht; cases h; simp only [ht]
  · rename_i ht; cases h; simp only [ht]
  · cases h
theorem slFs_open {m : GM} {g : TypeId → Option (List SL)} {fuel : Nat} (ih : ∀ t sl cs (x : DataW H × List MemPlace), g t = some sl → DataW.trod enc P w base spare held fuel t cs = some x → Opn m sl cs x.2) :
    ∀ (fs : List Field) (off : Nat) (sl : List SL) (n : Nat) (cs : List Value) (xs : List (DataW H × List MemPlace)), slFs P g off fs = some (sl, n) → cs.length = n → xs.length = fs.length →
      (∀ (i : Nat) f, fs[i]? = some f → DataW.trod enc P w base spare held fuel f.type ((cs.drop f.offset).take (P.cellsOf f.type)) = xs[i]?) → Opn m sl (cs.drop off) (xs.flatMap (·.2))
  | [], off, sl, n, cs, xs, hs, hn, hx, _ => by
    simp only [slFs, Option.some.injEq, Prod.mk.injEq] at hs
    obtain ⟨rfl, rfl⟩ := hs
    have := List.eq_nil_of_length_eq_zero hx
    subst this
    exact ⟨(), by simp [encL, OCells, hn], trivial⟩
  | f :: fs, off, sl, n, cs, xs, hs, hn, hx, h => by
    simp only [slFs] at hs
    split at hs
    · rename_i hoff
      split at hs
      · rename_i a b n' ha hb
        simp only [Option.some.injEq, Prod.mk.injEq] at hs
        obtain ⟨rfl, rfl⟩ := hs
        cases xs with
        | nil => simp at hx
        | cons x xs =>
          have h0 := h 0 f rfl
          rw [hoff] at h0
          obtain ⟨d1, o1, w1⟩ := ih _ _ _ _ ha h0
          obtain ⟨d2, o2, w2⟩ := slFs_open ih fs _ _ _ cs xs hb hn (by simpa using hx) fun i f' hf => by simpa using h (i + 1) f' (by simpa using hf)
          refine ⟨appD _ _ d1 d2, ?_, wfL_app _ _ _ _ w1 w2⟩
          rw [encL_app]
          refine ocells_append.2 ⟨_, _, ?_, o1, o2⟩
          rw [← List.drop_drop, List.take_append_drop]
      · cases hs
    · cases hs
theorem slOf_open {m : GM} (hfz : ∀ a cap cs, FzW (Ctx.of w fun _ => False) a cap cs → FZ.ok a cap cs) : ∀ (f : Nat) (t : TypeId) (sl : List SL) (fuel : Nat) (cs : List Value) (x : DataW H × List MemPlace), slOf P f t = some sl →
    DataW.trod enc P w 0 (fun _ => true) held fuel t cs = some x → Opn m sl cs x.2
  | 0, t, sl, fuel, cs, x, hs, h => by simp [slOf] at hs
  | f + 1, t, sl, fuel, cs, x, hs, h => by
    simp only [slOf] at hs
    split at hs
    · rename_i k ht
      cases hs
      obtain ⟨n, rfl, rfl, hw⟩ := DataW.trod_int ht h
      exact ⟨(n, ()), ⟨[_], [], rfl, ⟨_, rfl, rfl⟩, rfl⟩, ⟨hw, trivial⟩⟩
    · rename_i ht
      cases hs
      obtain ⟨b, rfl, rfl⟩ := DataW.trod_bool ht h
      exact ⟨(b, ()), ⟨[_], [], rfl, ⟨_, rfl, rfl⟩, rfl⟩, ⟨trivial, trivial⟩⟩
    · rename_i ht
      cases hs
      obtain ⟨s, rfl, rfl, hw⟩ := DataW.trod_string ht h
      exact ⟨(s, ()), ⟨[_], [], rfl, ⟨_, rfl, rfl⟩, rfl⟩, ⟨hw, trivial⟩⟩
    · rename_i n e ht
      split at hs
      · rename_i k hk
        split at hs
        · rename_i h1
          cases hs
          obtain ⟨xs, mm, rfl, rfl, hc, hl, hall⟩ := DataW.trod_array ht h
          have hcn : cs.length = n := hc.trans h1.2
          obtain ⟨l, q1, q2, q3, q4⟩ := sc_list hk n cs xs hcn hl fun i hi => by
            have := hall i hi
            rw [h1.1, Nat.mul_one] at this
            exact this
          exact ⟨(l, ()), ⟨cs, [], by simp, ⟨.inr q2, q1⟩, rfl⟩, ⟨⟨q2, q3⟩, trivial⟩⟩
        · cases hs
      · cases hs
    · rename_i fs ht
      split at hs
      · rename_i l n hl
        split at hs
        · rename_i hn
          cases hs
          obtain ⟨xs, mm, rfl, rfl, hc, hx, hall⟩ := DataW.trod_struct ht h
          have := slFs_open (m := m) (fun t sl cs x hs h => slOf_open hfz f t sl mm cs x hs h) fs.toList 0 _ _ cs xs hl (hc.trans hn.symm) (by simpa using hx) fun i f' hf => hall i f' (by simpa using hf)
          simpa using this
        · cases hs
      · cases hs
    · rename_i e ht
      split at hs
      · rename_i q hq
        split at hs
        · rename_i h1
          cases hs
          have hv : ∃ a0 n0 c0, cs = [.slice a0 n0 c0] := by
            rcases DataW.trod_slice ht h with ⟨h2, _⟩ | ⟨a, len, cap, elems, rest, n, _, h2, _⟩
            · exact ⟨_, _, _, h2⟩
            · exact ⟨_, _, _, h2⟩
          obtain ⟨a0, n0, c0, rfl⟩ := hv
          obtain ⟨l, g, hsh⟩ := slice_core (k := q.ek) ht (h1.trans (ek_w q).symm) (fun n cs x hx => let ⟨z, z1, z2, _⟩ := sc_open (sc_ek hq) hx; ⟨z, z1, z2⟩) h
          obtain ⟨h3, h4⟩ := shown_fz hsh
          obtain ⟨dd, rfl⟩ := toL_inv q l
          rw [toL_cvs] at h4
          rw [toL_length] at h3
          refine ⟨(⟨a0, c0, dd, .inr (hfz _ _ _ h4)⟩, ()), ⟨[_], [], rfl, ⟨_, rfl, ?_⟩, rfl⟩, ⟨⟨?_, wfS_toL hsh.wf⟩, trivial⟩⟩
          · rw [h3]; rfl
          · have := hsh.len; rw [toL_length] at this; exact this
        · cases hs
      · cases hs
    · cases hs
theorem arg_agg (hfz : ∀ a cap cs, FzW (Ctx.of w fun _ => False) a cap cs → FZ.ok a cap cs) {m : GM} {r : Reach} {b0 : Nat} {t : TypeId} {v : Value} {d : DataW H} {ps : List MemPlace} {sl : List SL} (hs : slOf P 8 t = some sl) (hag : isAggT P t = true) (hv : Value.okWide P w r b0 t v)
    (h : DataW.Trod enc P w 0 (fun _ => true) held t v d ps) : ∃ y : denL sl, TVRel m (.agg (encL sl y)) v ∧ wfL sl y := by
  obtain ⟨fuel, hf⟩ := h
  obtain ⟨y, h1, h2⟩ := slOf_open (m := m) hfz _ _ _ _ _ _ hs hf
  have : ∃ cs, v = .agg cs := by
    unfold isAggT at hag
    unfold Value.okWide at hv
    split at hag
    · rename_i fs ht
      rw [ht] at hv
      obtain ⟨cs, h, _⟩ := hv
      exact ⟨cs, h⟩
    · rename_i n e ht
      rw [ht] at hv
      obtain ⟨cs, h, _⟩ := hv
      exact ⟨cs, h⟩
    · cases hag
  obtain ⟨cs, rfl⟩ := this
  exact ⟨y, ⟨cs, rfl, h1⟩, h2⟩
theorem arg_int {r : Reach} {b0 : Nat} {t : TypeId} {k : IntKind} {v : Value} {d : DataW H} {ps : List MemPlace} (ht : P.underlying t = some (.int k)) (hv : Value.okWide P w r b0 t v)
    (h : DataW.Trod enc P w base spare held t v d ps) : ∃ n, v = .int k n ∧ (Lit.int k n).wf = true ∧ ps = [] := by
  obtain ⟨n, rfl⟩ := Go.WideShapes.okWide_int ht hv
  obtain ⟨fuel, hf⟩ := h
  obtain ⟨n', h1, h2, h3⟩ := DataW.trod_int ht hf
  simp [Value.cells] at h1
  subst h1
  exact ⟨n, rfl, h3, congrArg (·.2) h2⟩
theorem trodAll_below (hl : laidOutB P = true) {W W' : World} (hb : Below W.heap.size W W') : ∀ {ts : List TypeId} {vs : List Value} {ds : List (DataW H)} {ps : List MemPlace},
    (∀ t ∈ ts, P.readableRec t = true ∧ t < P.types.size) → DataW.TrodAll enc P W 0 (fun _ => true) true ts vs ds ps → (∀ x ∈ ps, x.block < W.heap.size) →
    DataW.TrodAll enc P W' 0 (fun b => decide (b < W.heap.size)) true ts vs ds ps
  | [], [], [], ps, _, h, _ => h
  | t :: ts, v :: vs, d :: ds, ps, hr, ⟨p, q, h1, h2, h3⟩, hlt => by
    subst h3
    exact ⟨p, q, Go.RowKit.Below.trod hl (hr t (by simp)).1 (hr t (by simp)).2 h1 hb (fun x hx => hlt x (by simp [hx])), trodAll_below hl hb (fun t ht => hr t (by simp [ht])) h2 (fun x hx => hlt x (by simp [hx])), rfl⟩
  | [], _ :: _, _, _, _, h, _ => h.elim
  | [], [], _ :: _, _, _, h, _ => h.elim
  | _ :: _, [], _, _, _, h, _ => h.elim
  | _ :: _, _ :: _, [], _, _, h, _ => h.elim
theorem Ext.below {w w' : World} (h : Ext w w') : Below w.heap.size w w' := ⟨h.str.1, h.str.2.1, h.str.2.2, h.size, fun k hk => h.block k hk⟩
theorem inv_nil (hfz : ∀ a cap cs, FZ.ok a cap cs → FzW (Ctx.of w fun _ => False) a cap cs) : Inv (Ctx.of w fun _ => False) [] [] w :=
  ⟨rfl, fun id ob g h => by simp [hget] at h, fun id ob g b h => by simp [hget] at h, fun i j oi oj gi gj b c _ h => by simp [hget] at h, Str.refl w, Nat.le_refl _, fun _ _ _ => rfl, hfz, fun x hx => by cases hx⟩
end
end
section
variable [FZ]
section
variable {P : Program} {H : Type} {enc : TypeId × Value → H} {w : World} {held : Bool}
end
end
end Go.Proofs.Ytjhpadklfeipaaa.Ev
end
section
namespace Go.Proofs.Ytjhpadklfeipaaa.X
open Go Go.Proofs.Ytjhpadklfeipaaa.Ev
set_option linter.unusedSectionVars false
set_option linter.unusedVariables false
set_option linter.unusedSimpArgs false
section
variable [FZ]
theorem w64 {x : Int} (h : -9223372036854775808 ≤ x) (h' : x ≤ 9223372036854775807) : IntKind.i64.wrap x = x := by
  simp only [IntKind.wrap, IntKind.bits, IntKind.signed, Bool.true_and]
  split <;> (rename_i hq; simp at hq; omega)
def mk (f : Nat → Bool) : Nat → Nat
  | 0 => 0
  | n + 1 => if f n then mk f n ||| 2 ^ n else mk f n
theorem ct {α : Sort _} {p : Prop} [Decidable p] {a b : α} (h : p) : cond (decide p) a b = a := by simp [h]
theorem cf {α : Sort _} {p : Prop} [Decidable p] {a b : α} (h : ¬ p) : cond (decide p) a b = b := by simp [h]
end
section
variable [FZ]
def lv : Nat → Int → Int → List Int
  | 0, _, _ => []
  | k + 1, n, f => if n > 1 then ((n + f - 1) / f) :: lv k ((n + f - 1) / f) f else []
theorem step_eq {n f : Int} (hf : 2 ≤ f ∧ f ≤ 4) (h1 : 1 < n) (h2 : n ≤ 128) :
    IntKind.i64.wrap ((IntKind.i64.wrap ((IntKind.i64.wrap (n + f)) - 1)).tdiv f) = (n + f - 1) / f ∧ 1 ≤ (n + f - 1) / f ∧ (n + f - 1) / f < n := by
  rw [w64 (x := n + f) (by omega) (by omega), w64 (x := n + f - 1) (by omega) (by omega), Int.tdiv_eq_ediv_of_nonneg (by omega)]
  have : f = 2 ∨ f = 3 ∨ f = 4 := by omega
  rcases this with rfl | rfl | rfl
  · rw [w64 (by omega) (by omega)]; omega
  · rw [w64 (by omega) (by omega)]; omega
  · rw [w64 (by omega) (by omega)]; omega
theorem lev48 {β : Type} {F : Nat} {x f c u : Int} (hf : 2 ≤ f ∧ f ≤ 4) {K : List Int → Option β} : ∀ (k : Nat) (n : Int) (acc : List Int), 1 ≤ n → n ≤ 128 → n < k → (acc.length : Int) + n ≤ 2000 →
    f43_1_l5 F x f c u K k n acc = K (acc ++ lv k n f)
  | 0, n, acc, h1, h2, h3, h4 => by omega
  | k + 1, n, acc, h1, h2, h3, h4 => by
    simp only [f43_1_l5, lv]
    by_cases hn : n > 1
    · obtain ⟨e, g1, g2⟩ := step_eq hf hn h2
      rw [e]
      have h0 : ¬ f = 0 := by omega
      have hl : (acc.length + 1) * 8 ≤ 70368744177664 := by omega
      simp only [hn, h0, hl, decide_true, decide_false, cond_true, cond_false, if_true]
      rw [lev48 hf k _ _ g1 (by omega) (by omega) (by simp; omega)]
      simp
    · simp [hn]
theorem lev49 {β : Type} {F : Nat} {x f c u : Int} (hf : 2 ≤ f ∧ f ≤ 4) {K : List Int → Option β} : ∀ (k : Nat) (n : Int) (acc : List Int), 1 ≤ n → n ≤ 128 → n < k → (acc.length : Int) + n ≤ 2000 →
    f44_1_l5 F x f c u K k n acc = K (acc ++ lv k n f)
  | 0, n, acc, h1, h2, h3, h4 => by omega
  | k + 1, n, acc, h1, h2, h3, h4 => by
    simp only [f44_1_l5, lv]
    by_cases hn : n > 1
    · obtain ⟨e, g1, g2⟩ := step_eq hf hn h2
      rw [e]
      have h0 : ¬ f = 0 := by omega
      have hl : (acc.length + 1) * 8 ≤ 70368744177664 := by omega
      simp only [hn, h0, hl, decide_true, decide_false, cond_true, cond_false, if_true]
      rw [lev49 hf k _ _ g1 (by omega) (by omega) (by simp; omega)]
      simp
    · simp [hn]
theorem lv_ok {f : Int} (hf : 2 ≤ f ∧ f ≤ 4) : ∀ (k : Nat) (n : Int), 1 ≤ n → n ≤ 128 → ((lv k n f).length : Int) < n ∧ ∀ y ∈ lv k n f, 1 ≤ y ∧ y ≤ 128
  | 0, n, h1, h2 => by simp [lv]; omega
  | k + 1, n, h1, h2 => by
    simp only [lv]
    by_cases hn : n > 1
    · obtain ⟨e, g1, g2⟩ := step_eq hf hn h2
      obtain ⟨q1, q2⟩ := lv_ok hf k _ g1 (by omega)
      rw [if_pos hn]
      refine ⟨by simp; omega, fun y hy => ?_⟩
      rcases List.mem_cons.1 hy with rfl | hy
      · omega
      · exact q2 y hy
    · rw [if_neg hn]; simp; omega
def rt (n f c u : Int) : Prop := (1 ≤ n ∧ n ≤ 128) ∧ (2 ≤ f ∧ f ≤ 4) ∧ (0 ≤ c ∧ c ≤ 64) ∧ (1 ≤ u ∧ u ≤ 320)
instance (n f c u : Int) : Decidable (rt n f c u) := by unfold rt; infer_instance
theorem cnd {β : Type} {p q : Prop} [Decidable p] [Decidable q] {K : Bool → Option β} : cond (decide p) (K (decide q)) (K false) = K (decide (p ∧ q)) := by
  by_cases h : p <;> simp [h]
theorem within87 {β : Type} {F : Nat} {a b c : Int} {K : Bool → Option β} : f41_1 F a b c K = K (decide (a ≥ b ∧ a ≤ c)) := by
  simp only [f41_1, cnd]
theorem right46 {β : Type} {F : Nat} {n f c u : Int} {K : Bool → Option β} : f31_1 F n f c u K = K (decide (rt n f c u)) := by
  simp only [f31_1, within87, cnd]
  congr 1
theorem right47 {β : Type} {F : Nat} {n f c u : Int} {K : Bool → Option β} : f32_1 F n f c u K = K (decide (rt n f c u)) := by
  simp only [f32_1, cnd]
  congr 1
  exact decide_eq_decide.2 (by unfold rt; omega)
def levels (n f c u : Int) : List Int := if rt n f c u then n :: lv 20000 n f else []
theorem levels48 {β : Type} {n f c u : Int} {K : List Int → Option β} : f43_1 20000 n f c u K = K (levels n f c u) := by
  simp only [f43_1, right46, levels]
  by_cases h : rt n f c u
  · simp only [h, decide_true, Bool.not_true, cond_false, if_true]
    rw [lev48 h.2.1 20000 n [n] h.1.1 h.1.2 (by have := h.1.2; omega) (by have := h.1.2; simp; omega)]
    rfl
  · simp [h]
theorem levels49 {β : Type} {n f c u : Int} {K : List Int → Option β} : f44_1 20000 n f c u K = K (levels n f c u) := by
  simp only [f44_1, right47, levels]
  by_cases h : rt n f c u
  · simp only [h, decide_true, Bool.not_true, cond_false, if_true]
    rw [lev49 h.2.1 20000 n [n] h.1.1 h.1.2 (by have := h.1.2; omega) (by have := h.1.2; simp; omega)]
    rfl
  · simp [h]
theorem levels_ok (n f c u : Int) : (levels n f c u).length ≤ 128 ∧ ∀ y ∈ levels n f c u, 1 ≤ y ∧ y ≤ 128 := by
  unfold levels
  split
  · rename_i h
    obtain ⟨q1, q2⟩ := lv_ok h.2.1 20000 n h.1.1 h.1.2
    have := h.1
    refine ⟨by simp; omega, fun y hy => ?_⟩
    rcases List.mem_cons.1 hy with rfl | hy
    · omega
    · exact q2 y hy
  · simp
def sumI : List Int → Int
  | [] => 0
  | x :: r => x + sumI r
theorem sumI_ok : ∀ (l : List Int), (∀ y ∈ l, 1 ≤ y ∧ y ≤ 128) → (l.length : Int) ≤ sumI l ∧ sumI l ≤ 128 * l.length
  | [], _ => by simp [sumI]
  | x :: r, h => by
    obtain ⟨q1, q2⟩ := sumI_ok r fun y hy => h y (by simp [hy])
    have := h x (by simp)
    simp only [sumI, List.length_cons]
    omega
theorem sum50 {β : Type} {F : Nat} {K : Int → Option β} (l : List Int) (hl : l.length ≤ 128) (hy : ∀ y ∈ l, 1 ≤ y ∧ y ≤ 128) : ∀ (r : List Int) (i : Nat) (k : Nat) (s : Int), l.drop i = r → i ≤ l.length → r.length < k → 0 ≤ s → s ≤ 128 * i →
    f35_1_l3 F ((l.length : Nat) : Int) l K k s (i : Int) = K (s + sumI r)
  | [], i, k, s, hd, hi, hk, h0, h1 => by
    cases k with
    | zero => omega
    | succ k =>
      have : i = l.length := by
        have := congrArg List.length hd
        simp at this; omega
      subst this
      simp [f35_1_l3, sumI]
  | x :: r, i, k, s, hd, hi, hk, h0, h1 => by
    cases k with
    | zero => omega
    | succ k =>
      have hlen : l.length - i = r.length + 1 := by
        have := congrArg List.length hd
        simpa using this
      have hlt : i < l.length := by omega
      have hx : l[i]? = some x := by
        have := congrArg (·[0]?) hd
        simpa using this
      have hm := hy x (List.mem_of_getElem? hx)
      have hdr : l.drop (i + 1) = r := by
        rw [← List.drop_drop, hd]; rfl
      simp only [f35_1_l3]
      have e1 : decide ((i : Int) < ((l.length : Nat) : Int)) = true := by simp; omega
      have e2 : decide ((0 : Int) ≤ (i : Int) ∧ (i : Int) < ((l.length : Nat) : Int)) = true := by simp; omega
      have e3 : decide (0 + (i : Int).toNat < l.length) = true := by simp; omega
      have e4 : l.getD (0 + (i : Int).toNat) 0 = x := by
        rw [List.getD_eq_getElem?_getD]; simp [hx]
      rw [e1, e2, e3, e4, cond_true, cond_true, cond_true, w64 (by omega) (by omega), w64 (by omega) (by omega)]
      have := sum50 (F := F) (K := K) l hl hy r (i + 1) k (s + x) hdr (by omega) (by simpa using hk) (by omega) (by omega)
      rw [show ((i : Int) + 1) = ((i + 1 : Nat) : Int) by omega, this]
      congr 1
      simp only [sumI]; omega
theorem sum51 {β : Type} {F : Nat} {K : Int → Option β} (l : List Int) (hl : l.length ≤ 128) (hy : ∀ y ∈ l, 1 ≤ y ∧ y ≤ 128) : ∀ (r : List Int) (i : Nat) (k : Nat) (s : Int), l.drop i = r → i ≤ l.length → r.length < k → 0 ≤ s → s ≤ 128 * i →
    f36_1_l4 F l K k s (i : Int) = K (s + sumI r)
  | [], i, k, s, hd, hi, hk, h0, h1 => by
    cases k with
    | zero => omega
    | succ k =>
      have : i = l.length := by
        have := congrArg List.length hd
        simp at this; omega
      subst this
      simp [f36_1_l4, sumI]
  | x :: r, i, k, s, hd, hi, hk, h0, h1 => by
    cases k with
    | zero => omega
    | succ k =>
      have hlen : l.length - i = r.length + 1 := by
        have := congrArg List.length hd
        simpa using this
      have hlt : i < l.length := by omega
      have hx : l[i]? = some x := by
        have := congrArg (·[0]?) hd
        simpa using this
      have hm := hy x (List.mem_of_getElem? hx)
      have hdr : l.drop (i + 1) = r := by
        rw [← List.drop_drop, hd]; rfl
      simp only [f36_1_l4]
      have e1 : decide ((i : Int) < ((l.length : Nat) : Int)) = true := by simp; omega
      have e2 : decide ((0 : Int) ≤ (i : Int) ∧ (i : Int) < ((l.length : Nat) : Int)) = true := by simp; omega
      have e3 : decide (0 + (i : Int).toNat < l.length) = true := by simp; omega
      have e4 : l.getD (0 + (i : Int).toNat) 0 = x := by
        rw [List.getD_eq_getElem?_getD]; simp [hx]
      rw [e1, e2, e3, e4, cond_true, cond_true, cond_true, w64 (by omega) (by omega), w64 (by omega) (by omega)]
      have := sum51 (F := F) (K := K) l hl hy r (i + 1) k (s + x) hdr (by omega) (by simpa using hk) (by omega) (by omega)
      rw [show ((i : Int) + 1) = ((i + 1 : Nat) : Int) by omega, this]
      congr 1
      simp only [sumI]; omega
def nodes (n f c u : Int) : Int := sumI (levels n f c u)
theorem nodes_ok (n f c u : Int) : 0 ≤ nodes n f c u ∧ nodes n f c u ≤ 16384 ∧ (rt n f c u → 1 ≤ nodes n f c u) ∧ (¬ rt n f c u → nodes n f c u = 0) := by
  obtain ⟨h1, h2⟩ := levels_ok n f c u
  obtain ⟨h3, h4⟩ := sumI_ok _ h2
  unfold nodes
  refine ⟨by omega, by omega, fun h => ?_, fun h => by simp [levels, h, sumI]⟩
  have : 1 ≤ (levels n f c u).length := by simp [levels, h]
  omega
theorem nodes50 {β : Type} {n f c u : Int} {K : Int → Option β} : f35_1 20000 n f c u K = K (nodes n f c u) := by
  obtain ⟨h1, h2⟩ := levels_ok n f c u
  simp only [f35_1, levels48]
  have := sum50 (F := 20000) (K := K) (levels n f c u) h1 h2 _ 0 20000 0 rfl (by omega) (by simp; omega) (by omega) (by omega)
  simp only [List.drop_zero, Int.zero_add] at this
  exact this
theorem nodes51 {β : Type} {n f c u : Int} {K : Int → Option β} : f36_1 20000 n f c u K = K (nodes n f c u) := by
  obtain ⟨h1, h2⟩ := levels_ok n f c u
  simp only [f36_1, levels49]
  have := sum51 (F := 20000) (K := K) (levels n f c u) h1 h2 _ 0 20000 0 rfl (by omega) (by simp; omega) (by omega) (by omega)
  simp only [List.drop_zero, Int.zero_add] at this
  exact this
end
section
variable [FZ]
def chain (f : Int) : List Int → Prop
  | a :: b :: r => 1 < a ∧ b = (a + f - 1) / f ∧ chain f (b :: r)
  | [a] => a = 1
  | [] => True
end
section
variable [FZ]
end
section
variable [FZ]
end
section
variable [FZ]
set_option maxRecDepth 100000 in
theorem known36 {β : Type} {K : Bool → Option β} : f17_1 20000 K = K true := by kernel_rfl
def unV (n f c u : Int) : Int := if rt n f c u then n + nodes n f c u else 0
theorem undoP {β : Type} {n f c u : Int} {K : Int → Option β} : f23_1 20000 n f c u K = K (unV n f c u) := by
  have hno := nodes_ok n f c u
  rw [f23_1, right46, unV]
  by_cases h : rt n f c u
  · have hn := h.1
    rw [decide_eq_true h, Bool.not_true, cond_false, nodes50, if_pos h, w64 (by omega) (by omega)]
  · rw [decide_eq_false h, Bool.not_false, cond_true, if_neg h]
theorem undoR {β : Type} {n f c u : Int} {K : Int → Option β} : f24_1 20000 n f c u K = K (unV n f c u) := by
  have hno := nodes_ok n f c u
  rw [f24_1, right47, unV]
  by_cases h : rt n f c u
  · have hn := h.1
    rw [decide_eq_true h, Bool.not_true, cond_false, nodes51, if_pos h, w64 (by omega) (by omega)]
  · rw [decide_eq_false h, Bool.not_false, cond_true, if_neg h]
def htV (n f c u : Int) : Int := if ((levels n f c u).length : Int) - 1 > 0 then ((levels n f c u).length : Int) - 1 else 0
theorem heightP {β : Type} {n f c u : Int} {K : Int → Option β} : f37_1 20000 n f c u K = K (htV n f c u) := by
  have h := (levels_ok n f c u).1
  rw [f37_1, levels48, w64 (by omega) (by omega)]; rfl
theorem heightR {β : Type} {n f c u : Int} {K : Int → Option β} : f38_1 20000 n f c u K = K (htV n f c u) := by
  have h := (levels_ok n f c u).1
  rw [f38_1, levels49, w64 (by omega) (by omega)]
  congr 1
  unfold htV
  split <;> split <;> omega
def dgV (n f c u o : Int) : Int := if rt n f c u ∧ 0 ≤ o ∧ o ≤ n then IntKind.i64.wrap (1 + IntKind.i64.wrap (IntKind.i64.wrap (f * htV n f c u) * o)) else 0
theorem digP {β : Type} {n f c u o : Int} {K : Int → Option β} : f25_1 20000 n f c u o K = K (dgV n f c u o) := by
  rw [f25_1, right46, dgV]
  by_cases h : rt n f c u
  · rw [decide_eq_true h, Bool.not_true, cond_false]
    by_cases h1 : o < 0
    · rw [ct h1, if_neg (by omega)]
    · by_cases h2 : o > n
      · rw [cf h1, ct h2, if_neg (by omega)]
      · rw [cf h1, cf h2, heightP, if_pos ⟨h, by omega, by omega⟩]
  · rw [decide_eq_false h, Bool.not_false, cond_true, if_neg (fun hh => h hh.1)]
theorem digR {β : Type} {n f c u o : Int} {K : Int → Option β} : f26_1 20000 n f c u o K = K (dgV n f c u o) := by
  rw [f26_1, right47, dgV]
  by_cases h : rt n f c u
  · rw [decide_eq_true h, Bool.not_true, cond_false]
    by_cases h1 : o < 0
    · rw [ct h1, if_neg (by omega)]
    · by_cases h2 : o > n
      · rw [cf h1, ct h2, if_neg (by omega)]
      · rw [cf h1, cf h2, heightR, if_pos ⟨h, by omega, by omega⟩]
  · rw [decide_eq_false h, Bool.not_false, cond_true, if_neg (fun hh => h hh.1)]
def szV (n f c u side : Int) : Int := if rt n f c u then (if side = 0 then 6 + n + nodes n f c u + 2 * c else if side = 1 then 6 + n + nodes n f c u + 2 * u else 0) else 0
theorem sizeP {β : Type} {n f c u side : Int} {K : Int → Option β} : f19_1 20000 n f c u side K = K (szV n f c u side) := by
  have hno := nodes_ok n f c u
  rw [f19_1, f34_1, szV]
  by_cases s0 : side = 0
  · subst s0
    rw [show ((0 : Int) == 0) = true from rfl, cond_true, right46]
    by_cases h : rt n f c u
    · have hn := h.1
      have hc := h.2.2.1
      rw [decide_eq_true h, Bool.not_true, cond_false, nodes50, if_pos h, if_pos rfl, w64 (x := 2 * c) (by omega) (by omega), w64 (x := 6 + n) (by omega) (by omega), w64 (x := 6 + n + nodes n f c u) (by omega) (by omega), w64 (by omega) (by omega)]
    · rw [decide_eq_false h, Bool.not_false, cond_true, if_neg h]
  · rw [show (side == 0) = false by simp [s0], cond_false]
    by_cases s1 : side = 1
    · subst s1
      rw [show ((1 : Int) == 1) = true from rfl, cond_true, right46]
      by_cases h : rt n f c u
      · have hn := h.1
        have hu := h.2.2.2
        rw [decide_eq_true h, Bool.not_true, cond_false, nodes50, if_pos h, if_neg s0, if_pos rfl, w64 (x := 2 * u) (by omega) (by omega), w64 (x := 6 + n) (by omega) (by omega), w64 (x := 6 + n + nodes n f c u) (by omega) (by omega), w64 (by omega) (by omega)]
      · rw [decide_eq_false h, Bool.not_false, cond_true, if_neg h]
    · rw [show (side == 1) = false by simp [s1], cond_false, Bool.not_false, cond_true, if_neg s0, if_neg s1]
      split <;> rfl
theorem sizeR {β : Type} {n f c u side : Int} {K : Int → Option β} : f33_1 20000 n f c u side K = K (szV n f c u side) := by
  have hno := nodes_ok n f c u
  rw [f33_1, f42_1, szV]
  by_cases s0 : side = 0
  · subst s0
    rw [show ((0 : Int) == 0) = true from rfl, cond_true, right47]
    by_cases h : rt n f c u
    · have hn := h.1
      have hc := h.2.2.1
      rw [decide_eq_true h, Bool.not_true, cond_false, w64 (x := 2 * c) (by omega) (by omega), cf (by omega), nodes51, if_pos h, if_pos rfl, w64 (x := 6 + n) (by omega) (by omega), w64 (x := 6 + n + nodes n f c u) (by omega) (by omega), w64 (by omega) (by omega)]
    · rw [decide_eq_false h, Bool.not_false, cond_true, if_neg h]
  · rw [show (side == 0) = false by simp [s0], cond_false]
    by_cases s1 : side = 1
    · subst s1
      rw [show ((1 : Int) == 1) = true from rfl, cond_true, right47]
      by_cases h : rt n f c u
      · have hn := h.1
        have hu := h.2.2.2
        rw [decide_eq_true h, Bool.not_true, cond_false, w64 (x := 2 * u) (by omega) (by omega), cf (by omega), nodes51, if_pos h, if_neg s0, if_pos rfl, w64 (x := 6 + n) (by omega) (by omega), w64 (x := 6 + n + nodes n f c u) (by omega) (by omega), w64 (by omega) (by omega)]
      · rw [decide_eq_false h, Bool.not_false, cond_true, if_neg h]
    · rw [show (side == 1) = false by simp [s1], cond_false, right47, if_neg s0, if_neg s1]
      by_cases h : rt n f c u
      · rw [decide_eq_true h, Bool.not_true, cond_false, ct (show (-1 : Int) < 0 by omega), if_pos h]
      · rw [decide_eq_false h, Bool.not_false, cond_true, if_neg h]
theorem law_true {β : Type} (n f c u o side : Int) {q1 q2 q3 q4 q5 q6 : Prop} (_ : q1) (_ : q2) (_ : q3) (_ : q4) (_ : q5) (_ : q6) (r0 : β) :
    ∃ F, f6_1 F n f c u o side (fun b => cond b (some r0) none) = some r0 := by
  refine ⟨20000, ?_⟩
  rw [f6_1, f21_1, sizeP, fquo]
  cases hD : FloatKind.f64.format.div (FloatKind.f64.nearest n) (FloatKind.f64.nearest (szV n f c u side)) with
  | some r =>
    simp only
    rw [f22_1, sizeR, fquo, hD]
    simp only
    rw [undoP, undoR, beq_self_eq_true, cond_true, digP, digR, beq_self_eq_true, cond_true]
    by_cases he : FloatKind.f64.format.order r r = some .eq
    · rw [show (FloatKind.f64.format.order r r == some .eq) = true by simp [he], cond_true, known36]; rfl
    · rw [show (FloatKind.f64.format.order r r == some .eq) = false by simpa using he, cond_false, show (FloatKind.f64.format.order r r != some .eq) = true by simpa using he, cond_true, cond_true, known36]; rfl
  | none =>
    simp only
    rw [f22_1, sizeR, fquo, hD]
    simp only
    rw [undoP, undoR, beq_self_eq_true, cond_true, digP, digR, beq_self_eq_true, cond_true, known36]; rfl
end
end Go.Proofs.Ytjhpadklfeipaaa.X
end