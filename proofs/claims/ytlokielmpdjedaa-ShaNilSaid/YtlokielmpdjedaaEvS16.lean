/- The evaluator is sound, sixteenth part: code, loops, functions. -/
import Derived.Test.YtlokielmpdjedaaEvS15
import Derived.LoopN
import Derived.Scope
import Derived.ScopeJumps
import Derived.Laws.Sem
namespace Go.Proofs.Ytlokielmpdjedaa.Ev
open Go
set_option linter.unusedVariables false

variable {P : Program}

def exitOf : Xt → Exit
  | .normal => .normal
  | .exit i => .exit i
  | .goto l => .goto l
  | .ret => .ret

/-- The first n0 objects stand as they stood. -/
def Pin (n0 : Nat) (m m' : GM) : Prop := n0 ≤ m'.length ∧ ∀ i, i < n0 → m'[i]? = m[i]?

theorem Pin.refl {n0 : Nat} {m : GM} (h : n0 ≤ m.length) : Pin n0 m m := ⟨h, fun _ _ => rfl⟩
theorem Pin.trans {n0 : Nat} {a b c : GM} (h : Pin n0 a b) (k : Pin n0 b c) : Pin n0 a c := ⟨k.1, fun i hi => (k.2 i hi).trans (h.2 i hi)⟩
theorem Pin.of_pre {n0 : Nat} {m m' : GM} (h : n0 ≤ m.length) (p : Pre m m') : Pin n0 m m' := by
  have hg : ∀ i, i < n0 → m'[i]? = m[i]? := fun i hi => by
    have hm : m[i]? = some (m[i]'(by omega)) := List.getElem?_eq_getElem _
    rw [hm]; exact p i _ hm
  refine ⟨?_, hg⟩
  cases n0 with
  | zero => omega
  | succ n =>
    have h1 := hg n (by omega)
    rcases Nat.lt_or_ge n m'.length with h2 | h2
    · exact h2
    · rw [List.getElem?_eq_none h2, List.getElem?_eq_getElem (by omega)] at h1; cases h1

/-- What is known of some slots. -/
def SlotsRel (m : GM) (a : Act) : List Nat → List AV → Prop
  | s :: ss, v :: vs => (isTop v ∨ AVRel m v (a.tmps.getD s undef)) ∧ SlotsRel m a ss vs
  | _, _ => True

theorem eget_topEnv (n i : Nat) : eget (topEnv n) i = .top := by
  induction n generalizing i with
  | zero => rfl
  | succ n ih => cases i with
    | zero => rfl
    | succ i => exact ih i

theorem topEnv_length (n : Nat) : (topEnv n).length = n := by
  induction n with
  | zero => rfl
  | succ n ih => simp [topEnv, ih]

theorem mkEnv_length (n : Nat) : ∀ (ss : List Nat) (vs : List AV), (mkEnv n ss vs).length = n
  | [], vs => by cases vs <;> simp [mkEnv, topEnv_length]
  | s :: ss, [] => by simp [mkEnv, topEnv_length]
  | s :: ss, v :: vs => by simp only [mkEnv, eset_length]; exact mkEnv_length n ss vs

theorem mkEnv_rel {m : GM} {a : Act} {n : Nat} (hn : n ≤ a.tmps.size) (hd : a.defers = []) : ∀ (ss : List Nat) (vs : List AV), SlotsRel m a ss vs → ERel m (mkEnv n ss vs) a := by
  have base : ERel m (topEnv n) a := ⟨by rw [topEnv_length]; exact hn, hd, fun i => by rw [eget_topEnv]; exact .inl trivial⟩
  intro ss
  induction ss with
  | nil => intro vs _; cases vs <;> exact base
  | cons s ss ih =>
    intro vs hs
    cases vs with
    | nil => exact base
    | cons v vs =>
      have he := ih vs hs.2
      refine ⟨by rw [mkEnv_length]; exact hn, hd, fun i => ?_⟩
      simp only [mkEnv]
      by_cases hi : s = i
      · subst hi
        by_cases hl : s < (mkEnv n ss vs).length
        · rw [eget_eset_same hl]; exact hs.1
        · rw [eget_out (by rw [eset_length]; exact Nat.le_of_not_lt hl)]; exact .inl trivial
      · rw [eget_eset_ne hi]; exact he.val i

theorem getAll_rel {m : GM} {env : Env} {a : Act} (he : ERel m env a) : ∀ ss, SlotsRel m a ss (getAll env ss)
  | [] => trivial
  | s :: ss => ⟨he.val s, getAll_rel he ss⟩

theorem tvsOf_rel {m : GM} {a : Act} : ∀ {ss : List Nat} {avs : List AV} {vs : List TV}, avs.length = ss.length → SlotsRel m a ss avs → tvsOf avs = some vs → TVs m vs (ss.map fun s => a.tmps.getD s undef)
  | [], [], vs, _, _, h => by cases h; trivial
  | s :: ss, [], vs, hl, _, h => by simp at hl
  | [], v :: avs, vs, hl, _, h => by simp at hl
  | s :: ss, v :: avs, vs, hl, hs, h => by
    unfold tvsOf at h
    split at h
    · cases h; rename_i heq; cases heq
    · cases h
    · rename_i x r hne heq
      cases heq
      split at h
      · rename_i l hl'
        cases h
        refine ⟨?_, tvsOf_rel (by simpa using hl) hs.2 hl'⟩
        rcases hs.1 with ht | ht
        · match x, ht, hne with
          | .lf .top, _, hne => exact (hne rfl).elim
        · exact ht
      · cases h
    · cases h

theorem getAll_length (env : Env) : ∀ ss, (getAll env ss).length = ss.length
  | [] => rfl
  | s :: ss => by simp [getAll, getAll_length env ss]

theorem avsOf_rel {m : GM} {a : Act} : ∀ {ss : List Nat} {vs : List TV}, TVs m vs (ss.map fun s => a.tmps.getD s undef) → SlotsRel m a ss (avsOf vs)
  | [], [], _ => trivial
  | s :: ss, [], h => h.elim
  | [], v :: vs, h => h.elim
  | s :: ss, v :: vs, h => ⟨.inr h.1, avsOf_rel h.2⟩

section
variable {T : FuncId → Option Summ} {nt n0 : Nat} {LT : Nat → Option LoopS}

/-- A loop's summary holds: it is reached from below by summaries of which each is one round more. -/
def LoopOK (P : Program) (T : FuncId → Option Summ) (nt n0 : Nat) (LT : Nat → Option LoopS) (S : LoopS) (b : Code) : Prop :=
  ∃ g : Nat → LoopS, (∀ k, (g k).live = S.live ∧ (g k).out = S.out) ∧
    (∀ vs h K r, S.run vs h K = some r → ∃ n, (g n).run vs h K = some r) ∧
    (∀ vs h K, (g 0).run vs h K = none) ∧
    ∀ k vs h K r, (g (k + 1)).run vs h K = some r → roundOf P T nt n0 LT (g k) b vs h K = some r

def loopsOf : Code → List Code
  | .seq a b => loopsOf a ++ loopsOf b
  | .cond _ a b => loopsOf a ++ loopsOf b
  | .block _ a => loopsOf a
  | .loop a => a :: loopsOf a
  | .scope a => loopsOf a
  | _ => []

def LoopsOK (P : Program) (T : FuncId → Option Summ) (nt n0 : Nat) (LT : Nat → Option LoopS) (l : List Code) : Prop :=
  ∀ b ∈ l, ∀ S, LT (firstRegion b) = some S → LoopOK P T nt n0 LT S b

variable {G : Ctx} {r : Res}

/-- A label's summary holds: each is one pass more, and the code from the label on is walked soundly. -/
def LabelOK (P : Program) (T : FuncId → Option Summ) (nt n0 : Nat) (LT : Nat → Option LoopS) (S : LoopS) (l : Nat) (b : Code) : Prop :=
  ∃ (g : Nat → LoopS) (rest : Code), findLabel b l = some rest ∧ (∀ k, (g k).live = S.live ∧ (g k).out = S.out) ∧
    (∀ vs h K r, S.run vs h K = some r → ∃ n, (g n).run vs h K = some r) ∧
    (∀ vs h K, (g 0).run vs h K = none) ∧
    (∀ k vs h K r, (g (k + 1)).run vs h K = some r → passOf P T nt n0 LT (g k) l rest vs h K = some r) ∧
    (∀ {G : Ctx} {r : Res} {Q : Exit → Act → World → Prop} {m : GM} {h : Heap} {w : World} {a : Act} {env : Env} {K : Xt → Env → Heap → Option Res}, n0 ≤ m.length → Inv G m h w → ERel m env a →
      evC P T nt n0 LT rest env h K = some r → (∀ e env' h' m' a' w', K e env' h' = some r → Inv G m' h' w' → Pin n0 m m' → ERel m' env' a' → Q (exitOf e) a' w') → rest.wp P Q a w)

def scopesOf : Code → List Code
  | .seq a b => scopesOf a ++ scopesOf b
  | .cond _ a b => scopesOf a ++ scopesOf b
  | .block _ a => scopesOf a
  | .loop a => scopesOf a
  | .scope a => a :: scopesOf a
  | _ => []

def ScopesOK (P : Program) (T : FuncId → Option Summ) (nt n0 : Nat) (LT : Nat → Option LoopS) (l : List Code) : Prop :=
  ∀ b ∈ l, ∀ i S, labelIn b = some i → LT (lkey i) = some S → LabelOK P T nt n0 LT S i b

/-- Behind a piece of code. -/
def After (G : Ctx) (m : GM) (n0 : Nat) (K : Xt → Env → Heap → Option Res) (r : Res) (Q : Exit → Act → World → Prop) : Prop :=
  ∀ e env' h' m' a' w', K e env' h' = some r → Inv G m' h' w' → Pin n0 m m' → ERel m' env' a' → Q (exitOf e) a' w'

theorem loopIn_sound {S : LoopS} {m : GM} {h : Heap} {w : World} {a : Act} {env : Env} {K : Xt → List AV → Heap → Option Res} (hn0 : n0 ≤ m.length) (hi : Inv G m h w) (he : ERel m env a)
    (hev : loopIn nt n0 S env h K = some r) :
    ∃ vs' h' m', S.run vs' h' K = some r ∧ Inv G m' h' w ∧ Pin n0 m m' ∧ TVs m' vs' (S.live.map fun s => a.tmps.getD s undef) ∧ nt ≤ a.tmps.size := by
  unfold loopIn at hev
  split at hev
  · rename_i hle
    split at hev
    · rename_i vs hvs
      have hx := tvsOf_rel (getAll_length env S.live) (getAll_rel he S.live) hvs
      rw [normF_eq] at hev
      obtain ⟨vs', h', m', h1, h2, h3, h4, h5⟩ := normVs_sound hi hn0 hx hev
      exact ⟨vs', h', m', h1, h2, ⟨h4, h5⟩, h3, Nat.le_trans (Nat.le_of_ble_eq_true hle) he.len⟩
    · cases hev
  · cases hev

/-- Rounds of a loop. -/
theorem rounds_sound {b : Code} {Q : Exit → Act → World → Prop} {g : Nat → LoopS} {K : Xt → List AV → Heap → Option Res} {live : List Nat} {out : Xt → List Nat}
    (hg : ∀ k, (g k).live = live ∧ (g k).out = out) (h0 : ∀ vs h K, (g 0).run vs h K = none)
    (hs : ∀ k vs h K r, (g (k + 1)).run vs h K = some r → roundOf P T nt n0 LT (g k) b vs h K = some r)
    (ih : ∀ {Q : Exit → Act → World → Prop} {m : GM} {h : Heap} {w : World} {a : Act} {env : Env} {K : Xt → Env → Heap → Option Res}, n0 ≤ m.length → Inv G m h w → ERel m env a →
      evC P T nt n0 LT b env h K = some r → After G m n0 K r Q → b.wp P Q a w) :
    ∀ (n : Nat) {m : GM} {h : Heap} {w : World} {a : Act} {vs : List TV}, n0 ≤ m.length → Inv G m h w → nt ≤ a.tmps.size → a.defers = [] → TVs m vs (live.map fun s => a.tmps.getD s undef) →
      (g n).run vs h K = some r →
      (∀ e avs h' m' a' w', K e avs h' = some r → Inv G m' h' w' → Pin n0 m m' → nt ≤ a'.tmps.size → a'.defers = [] → SlotsRel m' a' (out e) avs → Q (exitOf e) a' w') →
      Code.rounds P b Q n a w := by
  intro n
  induction n with
  | zero => intro m h w a vs _ _ _ _ _ hrun; rw [h0] at hrun; cases hrun
  | succ n ihn =>
    intro m h w a vs hn0 hi hnt hd hx hrun hq
    have hr := hs _ _ _ _ _ hrun
    unfold roundOf at hr
    rw [frcAs_eq] at hr
    rw [(hg n).1] at hr
    rw [rounds_succ]
    refine ih hn0 hi (mkEnv_rel hnt hd live _ (avsOf_rel hx)) hr ?_
    intro e env' h' m' a' w' hK hi' hp he'
    have leave : ∀ {e : Xt}, loopOut nt (g n) e env' h' K = some r → Q (exitOf e) a' w' := by
      intro e hK
      unfold loopOut at hK
      split at hK
      · rename_i hle
        rw [(hg n).2] at hK
        exact hq _ _ _ _ _ _ hK hi' hp (Nat.le_trans (Nat.le_of_ble_eq_true hle) he'.len) he'.dfr (getAll_rel he' (out _))
      · cases hK
    cases e with
    | normal =>
      obtain ⟨vs', h2, m2, h3, h4, h5, h6, h7⟩ := loopIn_sound (hp.1) hi' he' hK
      rw [(hg n).1] at h6
      exact ihn h5.1 h4 h7 he'.dfr h6 h3 fun e avs h3 m3 a3 w3 q1 q2 q3 => hq e avs h3 m3 a3 w3 q1 q2 (hp.trans (h5.trans q3))
    | exit i => exact leave hK
    | goto i => exact leave hK
    | ret => exact leave hK

theorem least {p : Nat → Prop} (h : ∃ n, p n) : ∃ n, p n ∧ ∀ k, p k → n ≤ k := by
  obtain ⟨n, hn⟩ := h
  induction n using Nat.strongRecOn with
  | _ n ih =>
    by_cases hk : ∃ k, k < n ∧ p k
    · obtain ⟨k, h1, h2⟩ := hk
      exact ih k h1 h2
    · exact ⟨n, hn, fun k h => Nat.le_of_not_lt fun hlt => hk ⟨k, hlt, h⟩⟩

open Classical in
/-- Passes from a label on. -/
theorem passes_sound {b rest : Code} {l : Nat} {Q : Exit → Act → World → Prop} {g : Nat → LoopS} {K : Xt → List AV → Heap → Option Res} {live : List Nat} {out : Xt → List Nat} {m0 : GM}
    (hf : findLabel b l = some rest) (hg : ∀ k, (g k).live = live ∧ (g k).out = out) (h0 : ∀ vs h K, (g 0).run vs h K = none)
    (hs : ∀ k vs h K r, (g (k + 1)).run vs h K = some r → passOf P T nt n0 LT (g k) l rest vs h K = some r)
    (ih : ∀ {Q : Exit → Act → World → Prop} {m : GM} {h : Heap} {w : World} {a : Act} {env : Env} {K : Xt → Env → Heap → Option Res}, n0 ≤ m.length → Inv G m h w → ERel m env a →
      evC P T nt n0 LT rest env h K = some r → After G m n0 K r Q → rest.wp P Q a w)
    (hq : ∀ e avs h' m' a' w', K e avs h' = some r → Inv G m' h' w' → Pin n0 m0 m' → nt ≤ a'.tmps.size → a'.defers = [] → SlotsRel m' a' (out e) avs → (∀ i, e ≠ .goto i) → Q (exitOf e) a' w')
    {a : Act} {w : World}
    (first : b.wp P (Exit.jump l (fun a w => ∃ n m h vs, (g n).run vs h K = some r ∧ n0 ≤ m.length ∧ Inv G m h w ∧ Pin n0 m0 m ∧ nt ≤ a.tmps.size ∧ a.defers = [] ∧ TVs m vs (live.map fun s => a.tmps.getD s undef)) Q) a w) :
    (Code.scope b).wp P Q a w := by
  let Jn : Nat → Act → World → Prop := fun n a w => ∃ m h vs, (g n).run vs h K = some r ∧ n0 ≤ m.length ∧ Inv G m h w ∧ Pin n0 m0 m ∧ nt ≤ a.tmps.size ∧ a.defers = [] ∧ TVs m vs (live.map fun s => a.tmps.getD s undef)
  let J : Act → World → Prop := fun a w => ∃ n, Jn n a w
  let mu : Act → World → Nat := fun a w => if hJ : J a w then Classical.choose (least hJ) else 0
  refine wp_scope_jumps l J mu hf (wp_mono first ?_) ?_
  · intro e a w hh
    cases e with
    | goto i => exact ⟨hh.1, hh.2⟩
    | _ => exact hh
  · intro a w hJ
    have hmin := (Classical.choose_spec (least hJ)).1
    have hmu : mu a w = Classical.choose (least hJ) := dif_pos hJ
    obtain ⟨m, h, vs, hrun, hn0, hi, hpin, hnt, hd, hx⟩ := hmin
    cases hk : Classical.choose (least hJ) with
    | zero => rw [hk, h0] at hrun; cases hrun
    | succ k =>
      rw [hk] at hrun hmu
      have hr := hs _ _ _ _ _ hrun
      unfold passOf at hr
      rw [frcAs_eq, (hg k).1] at hr
      refine ih hn0 hi (mkEnv_rel hnt hd live _ (avsOf_rel hx)) hr ?_
      intro e env' h' m' a' w' hK hi' hp he'
      have leave : ∀ {e : Xt}, (∀ i, e ≠ .goto i) → loopOut nt (g k) e env' h' K = some r → Q (exitOf e) a' w' := by
        intro e hne hK
        unfold loopOut at hK
        split at hK
        · rename_i hle
          rw [(hg k).2] at hK
          exact hq _ _ _ _ _ _ hK hi' (hpin.trans hp) (Nat.le_trans (Nat.le_of_ble_eq_true hle) he'.len) he'.dfr (getAll_rel he' (out _)) hne
        · cases hK
      cases e with
      | normal => exact leave (by intro i h; cases h) hK
      | exit i => exact leave (by intro j h; cases h) hK
      | ret => exact leave (by intro i h; cases h) hK
      | goto i =>
        simp only at hK
        split at hK
        · rename_i hil
          subst hil
          obtain ⟨vs', h2, m2, h3, h4, h5, h6, h7⟩ := loopIn_sound hp.1 hi' he' hK
          rw [(hg k).1] at h6
          have hJk : Jn k a' w' := ⟨m2, h2, vs', h3, h5.1, h4, hpin.trans (hp.trans h5), h7, he'.dfr, h6⟩
          have hJ' : J a' w' := ⟨k, hJk⟩
          refine ⟨rfl, hJ', ?_⟩
          have e1 : mu a' w' = Classical.choose (least hJ') := dif_pos hJ'
          have e2 : Classical.choose (least hJ') ≤ k := (Classical.choose_spec (least hJ')).2 k hJk
          show mu a' w' < mu a w
          omega
        · cases hK

theorem evC_wp (hm : P.follows .mixedOrders = true) (hT : SoundT P T) : ∀ (c : Code), LoopsOK P T nt n0 LT (loopsOf c) → ScopesOK P T nt n0 LT (scopesOf c) →
    ∀ {Q : Exit → Act → World → Prop} {m : GM} {h : Heap} {w : World} {a : Act} {env : Env} {K : Xt → Env → Heap → Option Res}, n0 ≤ m.length → Inv G m h w → ERel m env a →
      evC P T nt n0 LT c env h K = some r → After G m n0 K r Q → c.wp P Q a w := by
  intro c
  induction c with
  | skip => intro hl hc Q m h w a env K hn hi he hev hq; exact wp_skip (hq _ _ _ _ _ _ hev hi (Pin.refl hn) he)
  | region id ops dr =>
    intro hl hc Q m h w a env K hn hi he hev hq
    cases dr with
    | false =>
      simp only [evC] at hev
      exact wp_region_list (evOps_wp hT ops.toList hi he hev fun env' h' m' a' w' q1 q2 q3 q4 => hq _ _ _ _ _ _ q1 q2 (Pin.of_pre hn q3) q4)
    | true =>
      simp only [evC] at hev
      split at hev
      · rename_i l hp
        exact region_drawn hm hT hp hi he hev fun env' h' m' a' w' q1 q2 q3 q4 => hq _ _ _ _ _ _ q1 q2 (Pin.of_pre hn q3) q4
      · cases hev
  | seq x y ihx ihy =>
    intro hl hc Q m h w a env K hn hi he hev hq
    simp only [evC] at hev
    refine wp_seq (ihx (fun b hb => hl b (by simp [loopsOf, hb])) (fun b hb => hc b (by simp [scopesOf, hb])) hn hi he hev ?_)
    intro e env' h' m' a' w' hK hi' hp he'
    cases e with
    | normal => exact ihy (fun b hb => hl b (by simp [loopsOf, hb])) (fun b hb => hc b (by simp [scopesOf, hb])) hp.1 hi' he' hK fun e2 env2 h2 m2 a2 w2 q1 q2 q3 q4 => hq _ _ _ _ _ _ q1 q2 (hp.trans q3) q4
    | exit i => exact hq (.exit i) _ _ _ _ _ hK hi' hp he'
    | goto i => exact hq (.goto i) _ _ _ _ _ hK hi' hp he'
    | ret => exact hq .ret _ _ _ _ _ hK hi' hp he'
  | cond c x y ihx ihy =>
    intro hl hc Q m h w a env K hn hi he hev hq
    simp only [evC] at hev
    split at hev
    · rename_i t ht
      have hcv : a.eval c = .bool t := opd_rel he ht
      refine wp_cond hcv ?_
      cases t with
      | true => exact ihx (fun b hb => hl b (by simp [loopsOf, hb])) (fun b hb => hc b (by simp [scopesOf, hb])) hn hi he hev hq
      | false => exact ihy (fun b hb => hl b (by simp [loopsOf, hb])) (fun b hb => hc b (by simp [scopesOf, hb])) hn hi he hev hq
    · cases hev
  | block id b ih =>
    intro hl hc Q m h w a env K hn hi he hev hq
    simp only [evC] at hev
    refine wp_block (ih hl hc hn hi he hev ?_)
    intro e env' h' m' a' w' hK hi' hp he'
    cases e with
    | normal => exact hq .normal _ _ _ _ _ hK hi' hp he'
    | exit j =>
      simp only at hK
      simp only [exitOf, Exit.inBlock]
      split at hK
      · rename_i hj; rw [if_pos hj]; exact hq .normal _ _ _ _ _ hK hi' hp he'
      · rename_i hj; rw [if_neg hj]; exact hq (.exit j) _ _ _ _ _ hK hi' hp he'
    | goto i => exact hq (.goto i) _ _ _ _ _ hK hi' hp he'
    | ret => exact hq .ret _ _ _ _ _ hK hi' hp he'
  | loop b ih =>
    intro hl hc Q m h w a env K hn hi he hev hq
    simp only [evC] at hev
    split at hev
    · rename_i S hS
      obtain ⟨g, hg, h1, h2, h3⟩ := hl b (by simp [loopsOf]) S hS
      obtain ⟨vs', h', m', q1, q2, q3, q4, q5⟩ := loopIn_sound hn hi he hev
      obtain ⟨n, hrun⟩ := h1 _ _ _ _ q1
      refine wp_loop_rounds n (rounds_sound (live := S.live) (out := S.out) hg h2 h3 (ih (fun b' hb => hl b' (by simp [loopsOf, hb])) (fun b' hb => hc b' (by simpa [scopesOf] using hb))) n q3.1 q2 q5 he.dfr q4 hrun ?_)
      intro e avs h'' m'' a'' w'' p1 p2 p3 p4 p5 p6
      rw [frcAs_eq, frcH_eq] at p1
      exact hq _ _ _ _ _ _ p1 p2 (q3.trans p3) (mkEnv_rel p4 p5 _ _ p6)
    · cases hev
  | rangeFunc f ps x y ihx ihy => intro hl hc Q m h w a env K hn hi he hev hq; simp only [evC] at hev; cases hev
  | exit id => intro hl hc Q m h w a env K hn hi he hev hq; exact wp_exit (hq (.exit id) _ _ _ _ _ hev hi (Pin.refl hn) he)
  | scope b ih =>
    intro hl hc Q m h w a env K hn hi he hev hq
    simp only [evC] at hev
    have ihb : ∀ {Q : Exit → Act → World → Prop} {K : Xt → Env → Heap → Option Res}, evC P T nt n0 LT b env h K = some r → After G m n0 K r Q → b.wp P Q a w :=
      fun hev hq => ih (fun b' hb => hl b' (by simpa [loopsOf] using hb)) (fun b' hb => hc b' (by simp [scopesOf, hb])) hn hi he hev hq
    by_cases hex : ∃ l S, labelIn b = some l ∧ LT (lkey l) = some S
    · obtain ⟨l, S, hlab, hS⟩ := hex
      obtain ⟨g, rest, hf, hg, h1, h2, h3, h4⟩ := hc b (by simp [scopesOf]) l S hlab hS
      refine passes_sound (G := G) (r := r) (m0 := m) (live := S.live) (out := S.out) (K := fun e vs' h' => frcAs (mkEnv nt (S.out e) vs') fun env => frcH h' fun h' => K e env h') hf hg h2 h3 h4 ?_ ?_
      · intro e avs h'' m'' a'' w'' p1 p2 p3 p4 p5 p6 p7
        rw [frcAs_eq, frcH_eq] at p1
        exact hq _ _ _ _ _ _ p1 p2 p3 (mkEnv_rel p4 p5 _ _ p6)
      · refine ihb hev ?_
        intro e env' h' m' a' w' hK hi' hp he'
        cases e with
        | normal => exact hq .normal _ _ _ _ _ hK hi' hp he'
        | exit i => exact hq (.exit i) _ _ _ _ _ hK hi' hp he'
        | ret => exact hq .ret _ _ _ _ _ hK hi' hp he'
        | goto i =>
          simp only at hK
          split at hK
          · cases hK
          · rename_i hli
            have hil : l = i := Option.some.inj (hlab.symm.trans (Classical.not_not.1 hli))
            subst hil
            rw [hS] at hK
            obtain ⟨vs', h2', m2, q1, q2, q3, q4, q5⟩ := loopIn_sound hp.1 hi' he' hK
            obtain ⟨n, hn'⟩ := h1 _ _ _ _ q1
            exact ⟨rfl, n, m2, h2', vs', hn', q3.1, q2, hp.trans q3, q5, he'.dfr, q4⟩
    · refine wp_scope_straight (ihb hev ?_)
      intro e env' h' m' a' w' hK hi' hp he'
      cases e with
      | normal => exact hq .normal _ _ _ _ _ hK hi' hp he'
      | exit i => exact hq (.exit i) _ _ _ _ _ hK hi' hp he'
      | ret => exact hq .ret _ _ _ _ _ hK hi' hp he'
      | goto i =>
        simp only at hK
        split at hK
        · cases hK
        · rename_i hli
          split at hK
          · rename_i S' hS'
            exact (hex ⟨i, S', Classical.not_not.1 hli, hS'⟩).elim
          · cases hK
  | label l => intro hl hc Q m h w a env K hn hi he hev hq; exact wp_label (hq .normal _ _ _ _ _ hev hi (Pin.refl hn) he)
  | goto l => intro hl hc Q m h w a env K hn hi he hev hq; exact wp_goto (hq (.goto l) _ _ _ _ _ hev hi (Pin.refl hn) he)
  | ret => intro hl hc Q m h w a env K hn hi he hev hq; exact wp_ret (hq .ret _ _ _ _ _ hev hi (Pin.refl hn) he)
  | refuse s => intro hl hc Q m h w a env K hn hi he hev hq; simp only [evC] at hev; cases hev

/-! ### Functions -/

def resGet (a : Act) : ResultVar → Sem Value
  | .tmp t => pure (a.tmps.getD t undef)
  | .cell x t => do loadVar t (← asAddr (a.tmps.getD x undef))

theorem resVals_list {m : GM} {h : Heap} {w : World} {a : Act} {env : Env} (hi : Inv G m h w) (he : ERel m env a) : ∀ (l : List ResultVar) (vs : List TV), resVals P env h l = some vs →
    ∃ xs, TVs m vs xs ∧ (l.mapM (resGet a)).run P w = .ok xs w
  | [], vs, hv => by cases hv; exact ⟨[], trivial, by simp [List.mapM_nil]⟩
  | .tmp t :: l, vs, hv => by
    simp only [resVals] at hv
    split at hv
    · cases hv
    · rename_i v l' hne hx hl
      cases hv
      obtain ⟨xs, h1, h2⟩ := resVals_list hi he l _ hl
      refine ⟨a.tmps.getD t undef :: xs, ⟨?_, h1⟩, ?_⟩
      · have := he.val t
        rw [hx] at this
        rcases this with ht | ht
        · match v, ht, hne with
          | .lf .top, _, hne => exact (hne rfl).elim
        · exact ht
      · rw [List.mapM_cons]
        simp only [resGet, Sem.run_bind, Sem.run_pure, Result.andThen_ok, h2]
    · cases hv
  | .cell x t :: l, vs, hv => by
    simp only [resVals] at hv
    split at hv
    · rename_i id off hx
      split at hv
      · rename_i ob hob
        split at hv
        · rename_i es hes
          split at hv
          · rename_i v q hld hl
            cases hv
            obtain ⟨xs, h1, h2⟩ := resVals_list hi he l _ hl
            obtain ⟨g, b, hg, hb, hv'⟩ : ∃ g b, m[id]? = some g ∧ g.addr = some b ∧ a.tmps.getD x undef = .pointer (some (at_ b off)) := by
              have := he.val x
              rw [hx] at this
              exact this.resolve_left (fun h => h)
            obtain ⟨cs, hoc, hrd⟩ := hi.read hob hg hb
            obtain ⟨h3, h4⟩ := dropW_cells hes hoc
            obtain ⟨val, hval, hrun, _⟩ := ldE_run hld h4
            have := hrun b off w (fun j u hu => hrd w (Ext.refl w) (off + j) u (by rw [List.getElem?_drop] at hu; exact hu))
            refine ⟨val :: xs, ⟨hval, h1⟩, ?_⟩
            rw [List.mapM_cons]
            simp [resGet, Sem.run_bind, Result.andThen_ok, h2, hv', asAddr, this]
          · cases hv
        · cases hv
      · cases hv
    · cases hv

theorem results_of {fn : Func} {m : GM} {h : Heap} {w : World} {a : Act} {env : Env} {vs : List TV} (hi : Inv G m h w) (he : ERel m env a) (hv : resVals P env h fn.results.toList = some vs) :
    ∃ xs, TVs m vs xs ∧ (results fn a.tmps).run P w = .ok (if h : xs.toArray.size = 1 then xs.toArray[0] else .tuple xs.toArray) w := by
  obtain ⟨xs, h1, h2⟩ := resVals_list hi he _ _ hv
  refine ⟨xs, h1, ?_⟩
  have : results fn a.tmps = (do
      let ys ← fn.results.mapM (resGet a)
      pure (if h : ys.size = 1 then ys[0] else .tuple ys)) := by
    unfold results
    congr 2
  rw [this, Array.mapM_eq_mapM_toList]
  simp only [Sem.run_bind, map_eq_pure_bind, Sem.run_pure, Result.andThen_ok, h2]

theorem TVs.length_eq {m : GM} : ∀ {vs : List TV} {xs : List Value}, TVs m vs xs → vs.length = xs.length
  | [], [], _ => rfl
  | v :: vs, x :: xs, h => by simp [TVs.length_eq h.2]
  | [], _ :: _, h => h.elim
  | _ :: _, [], h => h.elim

theorem resRel_of {m : GM} {vs : List TV} {xs : List Value} (h : TVs m vs xs) : ResRel m vs (if h : xs.toArray.size = 1 then xs.toArray[0] else .tuple xs.toArray) := by
  match vs, xs, h with
  | [], [], h => exact ⟨#[], rfl, trivial⟩
  | [x], [y], h => exact h.1
  | x :: y :: r, a :: b :: s, h => exact ⟨_, by simp, h⟩
  | [x], _ :: _ :: _, h => exact h.2.elim
  | _ :: _ :: _, [y], h => exact h.2.elim

theorem eget_argEnv : ∀ (n : Nat) (vs : List TV) (i : Nat), eget (argEnv n vs) i = .top ∨ ∃ v, vs[i]? = some v ∧ eget (argEnv n vs) i = .tv v
  | 0, _, _ => .inl rfl
  | n + 1, [], 0 => .inl rfl
  | n + 1, [], i + 1 => by
    rcases eget_argEnv n [] i with h | ⟨v, h, _⟩
    · exact .inl h
    · simp at h
  | n + 1, v :: r, 0 => .inr ⟨v, rfl, rfl⟩
  | n + 1, v :: r, i + 1 => by
    rcases eget_argEnv n r i with h | ⟨v', h1, h2⟩
    · exact .inl h
    · exact .inr ⟨v', by simpa using h1, h2⟩

theorem argEnv_length : ∀ (n : Nat) (vs : List TV), (argEnv n vs).length = n
  | 0, _ => rfl
  | n + 1, [] => by simp [argEnv, argEnv_length n []]
  | n + 1, v :: r => by simp [argEnv, argEnv_length n r]

theorem TVs.get {m : GM} : ∀ {vs : List TV} {xs : List Value}, TVs m vs xs → ∀ {i : Nat} {v : TV}, vs[i]? = some v → ∃ x, xs[i]? = some x ∧ TVRel m v x
  | v :: vs, x :: xs, h, 0, _, hv => by simp only [List.getElem?_cons_zero, Option.some.injEq] at hv; subst hv; exact ⟨x, rfl, h.1⟩
  | v :: vs, x :: xs, h, i + 1, _, hv => by simpa using TVs.get h.2 (by simpa using hv)
  | [], [], _, _, _, hv => by simp at hv
  | [], _ :: _, h, _, _, _ => h.elim
  | _ :: _, [], h, _, _, _ => h.elim

theorem argEnv_rel {m : GM} {n : Nat} {vs : List TV} {xs : List Value} (h : TVs m vs xs) : ERel m (argEnv n vs) { tmps := xs.toArray ++ Array.replicate (n - xs.toArray.size) undef, defers := [] } := by
  refine ⟨by rw [argEnv_length]; simp; omega, rfl, fun i => ?_⟩
  rcases eget_argEnv n vs i with h1 | ⟨v, h1, h2⟩
  · rw [h1]; exact .inl trivial
  · rw [h2]
    obtain ⟨x, hx, hr⟩ := h.get h1
    refine .inr ?_
    have hlt := (List.getElem?_eq_some_iff.1 hx).1
    simp only [Array.getD_eq_getD_getElem?]
    rw [Array.getElem?_append_left (by simpa using hlt)]
    simp only [List.getElem?_toArray, hx, Option.getD_some]
    exact hr

/-- A function's body, walked. -/
theorem evBody_sound (hm : P.follows .mixedOrders = true) (hT : SoundT P T) {f : FuncId} {fn : Func} {c : Code} (hf : P.funcs[f]? = some fn) (hb : fn.body = some c) (hl : LoopsOK P T fn.ntmps n0 LT (loopsOf c)) (hsc : ScopesOK P T fn.ntmps n0 LT (scopesOf c))
    {vs : List TV} {h : Heap} (hn0 : h.length = n0) {K : List TV → Heap → Option Res} {r : Res} (hev : evBody P T fn.ntmps n0 LT c fn.results.toList vs h K = some r) {G : Ctx} {m : GM} {w : World} {xs : List Value}
    (hi : Inv G m h w) (hx : TVs m vs xs) :
    Calls P f xs.toArray w fun e w' => ∃ rs h', K rs h' = some r ∧ ∃ v t, e = .returned v ∧ ResRel (m ++ t) rs v ∧ Inv G (m ++ t) h' w' := by
  refine calls_of_wp hf hb ?_
  have hlen : m.length = n0 := hi.len.trans hn0
  unfold evBody at hev
  rw [frcAs_eq] at hev
  refine evC_wp hm hT c hl hsc (Nat.le_of_eq hlen.symm) hi (argEnv_rel hx) hev ?_
  intro e env' h' m' a' w' hK hi' hp he'
  have fin : ∀ {q : Option (List TV)}, resVals P env' h' fn.results.toList = q → (match q with | some vs => normF n0 vs h' K | none => none) = some r →
      a'.defers = [] ∧ ∃ v, (results fn a'.tmps).run P w' = .ok v w' ∧ ∃ rs h', K rs h' = some r ∧ ∃ v' t, Ending.returned v = .returned v' ∧ ResRel (m ++ t) rs v' ∧ Inv G (m ++ t) h' w' := by
    intro q hq hk
    cases q with
    | none => cases hk
    | some vs1 =>
      obtain ⟨xs1, h1, h2⟩ := results_of (fn := fn) hi' he' hq
      simp only [normF_eq] at hk
      obtain ⟨rs, h3, m3, q1, q2, q3, q4, q5⟩ := normVs_sound hi' hp.1 h1 hk
      have hpre : m3 = m ++ m3.drop n0 := by
        apply List.ext_getElem?
        intro i
        by_cases hlt : i < n0
        · rw [List.getElem?_append_left (by omega), q5 i hlt, hp.2 i hlt]
        · rw [List.getElem?_append_right (by omega), List.getElem?_drop, hlen]
          congr 1; omega
      refine ⟨he'.dfr, _, h2, rs, h3, q1, _, m3.drop n0, rfl, ?_, ?_⟩
      · rw [← hpre]; exact resRel_of q3
      · rw [← hpre]; exact q2
  cases e with
  | normal => exact fin rfl hK
  | ret => exact fin rfl hK
  | exit i => cases hK
  | goto i => cases hK

end
end Go.Proofs.Ytlokielmpdjedaa.Ev
