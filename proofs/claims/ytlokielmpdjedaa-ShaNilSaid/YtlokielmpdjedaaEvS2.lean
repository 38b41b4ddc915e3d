/- The evaluator is sound, second part: growing object tables; constants; the memory. -/
import Derived.Test.YtlokielmpdjedaaEvS1
namespace Go.Proofs.Ytlokielmpdjedaa.Ev
open Go
set_option linter.unusedVariables false

def Pre (m m' : GM) : Prop := ∀ (i : Nat) (g : Gh), m[i]? = some g → m'[i]? = some g

theorem Pre.refl (m : GM) : Pre m m := fun _ _ h => h
theorem Pre.trans {a b c : GM} (h : Pre a b) (k : Pre b c) : Pre a c := fun i g hg => k i g (h i g hg)
theorem pre_append (m t : GM) : Pre m (m ++ t) := fun i g h => by
  have hi : i < m.length := (List.getElem?_eq_some_iff.1 h).1
  rw [List.getElem?_append_left hi]; exact h

theorem SlRel.mono {m m' : GM} (hp : Pre m m') {id off lo len : Nat} {cap : Option Nat} {v : Value} (h : SlRel m id off lo len cap v) : SlRel m' id off lo len cap v := by
  obtain ⟨g, a, c, hg, h⟩ := h
  exact ⟨g, a, c, hp _ _ hg, h⟩

theorem LRel.mono {m m' : GM} (hp : Pre m m') {x : LV} {v : Value} (h : LRel m x v) : LRel m' x v := by
  cases x <;> simp only [LRel] at h ⊢ <;> try exact h
  · obtain ⟨g, b, hg, h⟩ := h; exact ⟨g, b, hp _ _ hg, h⟩
  · obtain ⟨g, b, hg, h⟩ := h; exact ⟨g, b, hp _ _ hg, h⟩
  · obtain ⟨g, hg, h⟩ := h; exact ⟨g, hp _ _ hg, h.mono hp⟩
  · exact h.mono hp

theorem ECells.mono {m m' : GM} (hp : Pre m m') {x : LV} {cs : List Value} (h : ECells m x cs) : ECells m' x cs := by
  cases x
  case seq => exact h
  all_goals (obtain ⟨v, hv, hl⟩ := h; exact ⟨v, hv, hl.mono hp⟩)

theorem OCells.mono {m m' : GM} (hp : Pre m m') {es : List LV} : ∀ {cs : List Value}, OCells m es cs → OCells m' es cs := by
  induction es with
  | nil => intro cs h; exact h
  | cons x r ih => rintro cs ⟨a, b, rfl, hx, hr⟩; exact ⟨a, b, rfl, hx.mono hp, ih hr⟩

theorem TVRel.mono {m m' : GM} (hp : Pre m m') {x : TV} {v : Value} (h : TVRel m x v) : TVRel m' x v := by
  cases x with
  | lf x => exact LRel.mono hp h
  | agg es => obtain ⟨cs, rfl, ho⟩ := h; exact ⟨cs, rfl, ho.mono hp⟩

theorem TVs.mono {m m' : GM} (hp : Pre m m') {l : List TV} : ∀ {vs : List Value}, TVs m l vs → TVs m' l vs := by
  induction l with
  | nil => intro vs h; cases vs <;> exact h
  | cons x r ih =>
    intro vs h
    cases vs with
    | nil => exact h.elim
    | cons v s => exact ⟨h.1.mono hp, ih h.2⟩

theorem AVRel.mono {m m' : GM} (hp : Pre m m') {x : AV} {v : Value} (h : AVRel m x v) : AVRel m' x v := by
  cases x with
  | tv x => exact TVRel.mono hp h
  | tup l => obtain ⟨vs, rfl, h⟩ := h; exact ⟨vs, rfl, h.mono hp⟩

/-! ### Constants -/

theorem constF_cells {m : GM} {g : TypeId → List Value → Option (List LV × List Value)}
    (hg : ∀ t vs es r, g t vs = some (es, r) → ∃ cs, vs = cs ++ r ∧ OCells m es cs) :
    ∀ (ts : List TypeId) (vs : List Value) (es : List LV) (r : List Value), constF g ts vs = some (es, r) → ∃ cs, vs = cs ++ r ∧ OCells m es cs
  | [], vs, es, r, h => by
    simp only [constF, Option.some.injEq, Prod.mk.injEq] at h
    obtain ⟨rfl, rfl⟩ := h
    exact ⟨[], rfl, rfl⟩
  | t :: ts, vs, es, r, h => by
    simp only [constF] at h
    split at h
    · rename_i es1 r1 h1
      split at h
      · rename_i l r2 h2
        simp only [Option.some.injEq, Prod.mk.injEq] at h
        obtain ⟨rfl, rfl⟩ := h
        obtain ⟨c1, rfl, ho1⟩ := hg _ _ _ _ h1
        obtain ⟨c2, rfl, ho2⟩ := constF_cells hg ts _ _ _ h2
        exact ⟨c1 ++ c2, by simp, ocells_append.2 ⟨_, _, rfl, ho1, ho2⟩⟩
      · cases h
    · cases h

theorem constL_cells {m : GM} {g : List Value → Option (List LV × List Value)} {k : EK}
    (hg : ∀ vs es r, g vs = some (es, r) → ∃ cs, vs = cs ++ r ∧ OCells m es cs) :
    ∀ (n : Nat) (vs : List Value) (l : List k.den) (r : List Value), constL g k n vs = some (l, r) → l.length = n ∧ vs = cvs k l ++ r
  | 0, vs, l, r, h => by
    simp only [constL, Option.some.injEq, Prod.mk.injEq] at h
    obtain ⟨rfl, rfl⟩ := h
    exact ⟨rfl, rfl⟩
  | n + 1, vs, l, r, h => by
    simp only [constL] at h
    split at h
    · rename_i es1 r1 h1
      split at h
      · rename_i x hx
        split at h
        · rename_i l2 r2 h2
          simp only [Option.some.injEq, Prod.mk.injEq] at h
          obtain ⟨rfl, rfl⟩ := h
          obtain ⟨c1, rfl, ho1⟩ := hg _ _ _ h1
          have hc := of1_cells k hx ho1
          obtain ⟨hl, rfl⟩ := constL_cells hg n _ _ _ h2
          exact ⟨by simp [hl], by simp [cvs, hc]⟩
        · cases h
      · cases h
    · cases h

theorem constE_cells {m : GM} {P : Program} : ∀ (f : Nat) (t : TypeId) (vs : List Value) (es : List LV) (r : List Value),
    constE P f t vs = some (es, r) → ∃ cs, vs = cs ++ r ∧ OCells m es cs
  | 0, _, _, _, _, h => by simp [constE] at h
  | f + 1, t, vs, es, r, h => by
    unfold constE at h
    split at h
    · exact constF_cells (constE_cells f) _ _ _ _ h
    · split at h
      · rename_i k hk
        split at h
        · rename_i l r1 h1
          simp only [Option.some.injEq, Prod.mk.injEq] at h
          obtain ⟨rfl, rfl⟩ := h
          obtain ⟨hl, rfl⟩ := constL_cells (m := m) (constE_cells f _) _ _ _ _ h1
          exact ⟨_, rfl, _, [], (List.append_nil _).symm, ⟨.inr hl, rfl⟩, rfl⟩
        · cases h
      · cases h
    · split at h
      · simp only [Option.some.injEq, Prod.mk.injEq] at h
        obtain ⟨rfl, rfl⟩ := h
        exact ⟨[_], rfl, _, [], rfl, ⟨_, rfl, rfl⟩, rfl⟩
      · cases h
    · split at h <;> first
        | (cases h; done)
        | (simp only [Option.some.injEq, Prod.mk.injEq] at h
           obtain ⟨rfl, rfl⟩ := h
           exact ⟨[_], rfl, _, [], rfl, ⟨_, rfl, rfl⟩, rfl⟩)

theorem zeroE_cells {m : GM} {P : Program} {t : TypeId} {es : List LV} (h : zeroE P t = some es) :
    ∃ i v, P.info? t = some i ∧ i.zero = some v ∧ OCells m es v.cells.toList := by
  simp only [zeroE] at h
  split at h
  · rename_i i hi
    split at h
    · rename_i v hv
      split at h
      · rename_i l hl
        simp only [Option.some.injEq] at h
        subst h
        obtain ⟨cs, hcs, ho⟩ := constE_cells (m := m) _ _ _ _ _ hl
        rw [List.append_nil] at hcs
        exact ⟨i, v, hi, hv, by rw [hcs]; exact ho⟩
      · cases h
    · cases h
  · cases h

theorem constTV_rel {m : GM} {P : Program} {t : TypeId} {v : Value} {x : TV} (h : constTV P t v = some x) : TVRel m x v := by
  unfold constTV at h
  split at h
  · rename_i cs
    split at h
    · rename_i l hl
      simp only [Option.some.injEq] at h
      subst h
      obtain ⟨c, hcs, ho⟩ := constE_cells (m := m) _ _ _ _ _ hl
      rw [List.append_nil] at hcs
      exact ⟨cs, rfl, by rw [hcs]; exact ho⟩
    · cases h
  all_goals first
    | (cases h; done)
    | (simp only [Option.some.injEq] at h; subst h; rfl)

/-! ### The memory -/

def Str (w w' : World) : Prop := w'.os = w.os ∧ w'.tape = w.tape ∧ w'.output = w.output
theorem Str.refl (w : World) : Str w w := ⟨rfl, rfl, rfl⟩
theorem Str.trans {a b c : World} (h : Str a b) (k : Str b c) : Str a c := ⟨k.1.trans h.1, k.2.1.trans h.2.1, k.2.2.trans h.2.2⟩

/-- Nothing that is there turns. -/
structure Ext (w w' : World) : Prop where
  str : Str w w'
  size : w.heap.size ≤ w'.heap.size
  block : ∀ b, b < w.heap.size → w'.heap[b]? = w.heap[b]?
theorem Ext.refl (w : World) : Ext w w := ⟨Str.refl w, Nat.le_refl _, fun _ _ => rfl⟩
theorem Ext.trans {a b c : World} (h : Ext a b) (k : Ext b c) : Ext a c :=
  ⟨h.str.trans k.str, Nat.le_trans h.size k.size, fun i hi => (k.block i (Nat.lt_of_lt_of_le hi h.size)).trans (h.block i hi)⟩
theorem Ext.drew (w : World) : Ext w { w with drawn := w.drawn + 1 } := ⟨⟨rfl, rfl, rfl⟩, Nat.le_refl _, fun _ _ => rfl⟩
theorem Ext.get {w w' : World} (h : Ext w w') {b : Nat} {o : Obj} (hb : w.heap[b]? = some o) : w'.heap[b]? = some o := by
  rw [h.block b (Array.getElem?_eq_some_iff.1 hb).1]; exact hb

/-- No cell of the block is frozen. -/
def FrOk (fr : Nat × Nat) (n : Nat) : Prop := fr.1 = fr.2 ∨ n ≤ fr.1
theorem FrOk.not {fr : Nat × Nat} {n : Nat} (h : FrOk fr n) : ∀ j, j < n → ¬ (fr.1 ≤ j ∧ j < fr.2) := by
  unfold FrOk at h; intro j hj; omega

/-- The cells of an object, in its block. -/
def Placed (g : Gh) (w : World) (ro : Bool) (cs : List Value) : Prop :=
  (cs = [] ∧ g.addr = none) ∨
  ∃ b blk t fr, g.addr = some b ∧ w.heap[b.1]? = some (.cells blk t fr) ∧ blk.size = g.sz ∧ b.2 + cs.length ≤ g.sz ∧
    (∀ j, j < cs.length → blk[b.2 + j]? = cs[j]?) ∧ (ro = false → FrOk fr g.sz)

def SeqG (g : Gh) (es : List LV) : Prop := ∀ off k n l r, dropW es off = some (.seq k n l :: r) → l.length = g.ln off ∧ k.w = g.ew off

def ObRel (m : GM) (g : Gh) (w : World) (ob : Ob) : Prop := SeqG g ob.es ∧ ∃ cs, OCells m ob.es cs ∧ Placed g w ob.ro cs

structure Ctx where
  w0 : World
  O : Nat → Prop

def Own (G : Ctx) (ro : Bool) (b : Nat) : Prop := if ro then ¬ G.O b ∧ b < G.w0.heap.size else G.O b ∨ G.w0.heap.size ≤ b

structure Inv (G : Ctx) (m : GM) (h : Heap) (w : World) : Prop where
  len : m.length = h.length
  obs : ∀ (id : Nat) ob g, hget h id = some ob → m[id]? = some g → ObRel m g w ob
  own : ∀ (id : Nat) ob g b, hget h id = some ob → m[id]? = some g → g.addr = some b → Own G ob.ro b.1
  dist : ∀ (i j : Nat) oi oj gi gj b c, i ≠ j → hget h i = some oi → hget h j = some oj → oi.ro = false → oj.ro = false → m[i]? = some gi → m[j]? = some gj →
    gi.addr = some b → gj.addr = some c → b.1 ≠ c.1
  str : Str G.w0 w
  size : G.w0.heap.size ≤ w.heap.size
  frame : ∀ b, b < G.w0.heap.size → ¬ G.O b → w.heap[b]? = G.w0.heap[b]?

theorem Placed.ext {g : Gh} {w w' : World} (e : Ext w w') {ro : Bool} {cs : List Value} (h : Placed g w ro cs) : Placed g w' ro cs := by
  rcases h with h | ⟨b, blk, t, fr, h1, h2, h3⟩
  · exact .inl h
  · exact .inr ⟨b, blk, t, fr, h1, e.get h2, h3⟩

theorem Inv.ext {G : Ctx} {m : GM} {h : Heap} {w w' : World} (i : Inv G m h w) (e : Ext w w') : Inv G m h w' :=
  ⟨i.len, fun id ob g h1 h2 => ⟨(i.obs id ob g h1 h2).1, let ⟨cs, a, b⟩ := (i.obs id ob g h1 h2).2; ⟨cs, a, b.ext e⟩⟩, i.own, i.dist, i.str.trans e.str,
   Nat.le_trans i.size e.size, fun b hb ho => (e.block b (Nat.lt_of_lt_of_le hb i.size)).trans (i.frame b hb ho)⟩

/-! ### The heap's lists -/

theorem hget_lt {h : Heap} {i : Nat} {o : Ob} (hg : hget h i = some o) : i < h.length := by
  induction h generalizing i with
  | nil => simp [hget] at hg
  | cons x r ih =>
    cases i with
    | zero => simp
    | succ i => simp only [hget] at hg; have := ih hg; simp; omega

theorem hget_append_left {h r : Heap} {i : Nat} (hi : i < h.length) : hget (h ++ r) i = hget h i := by
  induction h generalizing i with
  | nil => simp at hi
  | cons x t ih =>
    cases i with
    | zero => rfl
    | succ i => simp only [List.cons_append, hget]; exact ih (by simpa using hi)

theorem hget_append_right {h r : Heap} {i : Nat} (hi : h.length ≤ i) : hget (h ++ r) i = hget r (i - h.length) := by
  induction h generalizing i with
  | nil => simp
  | cons x t ih =>
    cases i with
    | zero => simp at hi
    | succ i => simp only [List.cons_append, hget, List.length_cons]; rw [ih (by simpa using hi)]; congr 1; omega

theorem hset_length (h : Heap) (i : Nat) (o : Option Ob) : (hset h i o).length = h.length := by
  induction h generalizing i with
  | nil => rfl
  | cons x t ih => cases i <;> simp [hset, ih]

theorem hget_hset_ne {h : Heap} {i j : Nat} {o : Option Ob} (hne : i ≠ j) : hget (hset h i o) j = hget h j := by
  induction h generalizing i j with
  | nil => rfl
  | cons x t ih =>
    cases i with
    | zero => cases j with
      | zero => exact absurd rfl hne
      | succ j => rfl
    | succ i => cases j with
      | zero => rfl
      | succ j => simp only [hset, hget]; exact ih (by omega)

theorem hget_hset_same {h : Heap} {i : Nat} {o : Option Ob} (hi : i < h.length) : hget (hset h i o) i = o := by
  induction h generalizing i with
  | nil => simp at hi
  | cons x t ih => cases i with
    | zero => rfl
    | succ i => simp only [hset, hget]; exact ih (by simpa using hi)

theorem eget_eset_same {e : Env} {i : Nat} {v : AV} (hi : i < e.length) : eget (eset e i v) i = v := by
  induction e generalizing i with
  | nil => simp at hi
  | cons x t ih => cases i with
    | zero => rfl
    | succ i => simp only [eset, eget]; exact ih (by simpa using hi)

theorem eget_eset_ne {e : Env} {i j : Nat} {v : AV} (hne : i ≠ j) : eget (eset e i v) j = eget e j := by
  induction e generalizing i j with
  | nil => rfl
  | cons x t ih =>
    cases i with
    | zero => cases j with
      | zero => exact absurd rfl hne
      | succ j => rfl
    | succ i => cases j with
      | zero => rfl
      | succ j => simp only [eset, eget]; exact ih (by omega)

theorem eset_length (e : Env) (i : Nat) (v : AV) : (eset e i v).length = e.length := by
  induction e generalizing i with
  | nil => rfl
  | cons x t ih => cases i <;> simp [eset, ih]

theorem eget_out {e : Env} {i : Nat} (hi : e.length ≤ i) : eget e i = .top := by
  induction e generalizing i with
  | nil => rfl
  | cons x t ih => cases i with
    | zero => simp at hi
    | succ i => simp only [eget]; exact ih (by simpa using hi)

/-! ### The frame's slots -/

def isTop : AV → Prop
  | .tv (.lf .top) => True
  | _ => False

structure ERel (m : GM) (env : Env) (a : Act) : Prop where
  len : env.length ≤ a.tmps.size
  dfr : a.defers = []
  val : ∀ i, isTop (eget env i) ∨ AVRel m (eget env i) (a.tmps.getD i undef)

theorem ERel.mono {m m' : GM} (hp : Pre m m') {env : Env} {a : Act} (h : ERel m env a) : ERel m' env a :=
  ⟨h.len, h.dfr, fun i => (h.val i).imp id (AVRel.mono hp)⟩

theorem ERel.put {m : GM} {env : Env} {a : Act} (h : ERel m env a) {d : Option Tmp} {x : AV} {v : Value} (hx : isTop x ∨ AVRel m x v) :
    ERel m (dstSet env d x) (a.put d v) := by
  cases d with
  | none => exact h
  | some d =>
    simp only [dstSet, Act.put]
    refine ⟨by simp [eset_length]; exact h.len, h.dfr, fun i => ?_⟩
    by_cases hi : d = i
    · subst hi
      by_cases hd : d < env.length
      · rw [eget_eset_same hd]
        have : d < a.tmps.size := Nat.lt_of_lt_of_le hd h.len
        simp only [Array.getD_eq_getD_getElem?, Array.getElem?_setIfInBounds, if_pos this, if_true]
        simpa using hx
      · rw [eget_out (by rw [eset_length]; exact Nat.le_of_not_lt hd)]; exact .inl trivial
    · rw [eget_eset_ne hi]
      have := h.val i
      simp only [Array.getD_eq_getD_getElem?, Array.getElem?_setIfInBounds, if_neg hi] at this ⊢
      exact this

theorem opd_rel {P : Program} {m : GM} {env : Env} {a : Act} (h : ERel m env a) {t : TypeId} {x : Operand} {v : AV} (hx : opd P env t x = some v) : AVRel m v (a.eval x) := by
  unfold opd at hx
  split at hx
  · rename_i i
    split at hx
    · cases hx
    · rename_i hne
      simp only [Option.some.injEq] at hx
      rcases h.val i with hv | hv
      · revert hv
        generalize eget env i = q at *
        subst hx
        intro hv
        match q, hv, hne with
        | .tv (.lf .top), _, hne => exact absurd rfl (hne)
      · rw [hx] at hv; exact hv
  · rename_i c
    split at hx
    · rename_i y hy
      simp only [Option.some.injEq] at hx
      subst hx
      exact constTV_rel hy
    · cases hx
  · cases hx; rfl
  · cases hx

end Go.Proofs.Ytlokielmpdjedaa.Ev
