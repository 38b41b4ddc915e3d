/- The evaluator is sound, eleventh part: objects laid anew. -/
import Derived.Test.YtlokielmpdjedaaEvS10
namespace Go.Proofs.Ytlokielmpdjedaa.Ev
open Go
set_option linter.unusedVariables false

variable {P : Program}

section
variable {G : Ctx} {m : GM} {h : Heap} {w w' : World}

/-! ### Renaming -/

def RenOK (f : Nat → Option Nat) (m m' : GM) : Prop := ∀ (id j : Nat), f id = some j → ∀ g, m[id]? = some g → m'[j]? = some g

theorem LRel.ren {f : Nat → Option Nat} {m m' : GM} (hf : RenOK f m m') {x : LV} {v : Value} (h : LRel m x v) : LRel m' (renL f x) v := by
  have hl := h.leaf
  cases x <;> try exact h
  · rename_i id off
    obtain ⟨g, b, hg, hb, hv⟩ := h
    simp only [renL]
    split
    · rename_i j hj; exact ⟨g, b, hf id j hj g hg, hb, hv⟩
    · exact hl
  · rename_i id off i o2
    obtain ⟨g, b, hg, hb, hv⟩ := h
    simp only [renL]
    split
    · rename_i j hj; exact ⟨g, b, hf id j hj g hg, hb, hv⟩
    · exact hl
  · rename_i id
    obtain ⟨g, hg, g', a, c, hg', hr⟩ := h
    simp only [renL]
    split
    · rename_i j hj; exact ⟨g, hf id j hj g hg, g', a, c, hf id j hj g' hg', hr⟩
    · exact hl
  · rename_i id off lo len cap
    obtain ⟨g', a, c, hg', hr⟩ := h
    simp only [renL]
    split
    · rename_i j hj; exact ⟨g', a, c, hf id j hj g' hg', hr⟩
    · exact hl

theorem xsh_ren (f : Nat → Option Nat) (x : LV) : xsh (renL f x) = xsh x := by
  cases x <;> simp only [renL] <;> try rfl
  all_goals (split <;> rfl)

theorem ECells.ren {f : Nat → Option Nat} {m m' : GM} (hf : RenOK f m m') {x : LV} {cs : List Value} (h : ECells m x cs) : ECells m' (renL f x) cs := by
  cases x
  case seq => exact h
  all_goals
    obtain ⟨v, hv, hl⟩ := h
    have hl' := LRel.ren hf hl
    simp only [renL] at hl' ⊢
    first
      | exact ⟨v, hv, hl'⟩
      | (split at hl' <;> exact ⟨v, hv, hl'⟩)

theorem OCells.ren {f : Nat → Option Nat} {m m' : GM} (hf : RenOK f m m') {es : List LV} : ∀ {cs : List Value}, OCells m es cs → OCells m' (renLs f es) cs := by
  induction es with
  | nil => intro cs h; exact h
  | cons x r ih => rintro cs ⟨a, b, rfl, hx, hr⟩; exact ⟨a, b, rfl, hx.ren hf, ih hr⟩

theorem xsh_rens (f : Nat → Option Nat) (es : List LV) : (renLs f es).map xsh = es.map xsh := by
  induction es with
  | nil => rfl
  | cons x r ih => simp only [renLs, List.map_cons, xsh_ren, ih]

theorem TVRel.ren {f : Nat → Option Nat} {m m' : GM} (hf : RenOK f m m') {x : TV} {v : Value} (h : TVRel m x v) : TVRel m' (renV f x) v := by
  cases x with
  | lf x => exact LRel.ren hf h
  | agg es => obtain ⟨cs, rfl, ho⟩ := h; exact ⟨cs, rfl, ho.ren hf⟩

theorem TVs.ren {f : Nat → Option Nat} {m m' : GM} (hf : RenOK f m m') {l : List TV} : ∀ {vs : List Value}, TVs m l vs → TVs m' (renVs f l) vs := by
  induction l with
  | nil => intro vs h; cases vs <;> exact h
  | cons x r ih =>
    intro vs h
    cases vs with
    | nil => exact h.elim
    | cons v s => exact ⟨h.1.ren hf, ih h.2⟩

/-! ### Nil slices -/

theorem Inv.swap (hi : Inv G m h w) {id : Nat} {ob : Ob} {es' : List LV} (hid : hget h id = some ob) (hx : es'.map xsh = ob.es.map xsh) (ho : ∀ cs, OCells m ob.es cs → OCells m es' cs) :
    Inv G m (hset h id (some ⟨ob.ro, es'⟩)) w := by
  refine ⟨by rw [hset_length]; exact hi.len, fun j o gj hj hgj => ?_, fun j o gj c hj hgj hc => ?_, fun i j oi oj gi gj b c hne h1 h2 h3 h4 h5 h6 h7 h8 => ?_, hi.str, hi.size, hi.frame⟩
  · rcases hget_hset hj with ⟨rfl, h0⟩ | ⟨hne, hj⟩
    · cases h0
      obtain ⟨hs, cs, hoc, hp⟩ := hi.obs j ob gj hid hgj
      exact ⟨seqG_xsh hx hs, cs, ho cs hoc, hp⟩
    · exact hi.obs j o gj hj hgj
  · rcases hget_hset hj with ⟨rfl, h0⟩ | ⟨hne, hj⟩
    · cases h0; exact hi.own j ob gj c hid hgj hc
    · exact hi.own j o gj c hj hgj hc
  · rcases hget_hset h1 with ⟨e1, h0⟩ | ⟨n1, q1⟩
    · cases h0
      rcases hget_hset h2 with ⟨e2, h0'⟩ | ⟨n2, q2⟩
      · exact absurd (e1.trans e2.symm) hne
      · exact hi.dist i j ob oj gi gj b c hne (by rw [e1]; exact hid) q2 h3 h4 h5 h6 h7 h8
    · rcases hget_hset h2 with ⟨e2, h0⟩ | ⟨n2, q2⟩
      · cases h0
        exact hi.dist i j oi ob gi gj b c hne q1 (by rw [e2]; exact hid) h3 h4 h5 h6 h7 h8
      · exact hi.dist i j oi oj gi gj b c hne q1 q2 h3 h4 h5 h6 h7 h8

theorem nils_full {k : EK} {v : Value} {q : Option EK} (hi : Inv G m h w) (hv : LRel m (.nils q) v) : LRel (m ++ [ghOf none 0 [.seq k 0 []]]) (.full h.length) v := by
  have : v = .slice none 0 0 := hv
  subst this
  exact full_nil (m := m ++ [ghOf none 0 [.seq k 0 []]]) (h := h) (k := k) (A := none) (by rw [← hi.len]; exact gm_app_new) rfl

theorem matL_rel : ∀ (l : List LV) {m : GM} {h : Heap} (_ : Inv G m h w), ∃ t u, (matL l h).2 = h ++ u ∧ Inv G (m ++ t) (matL l h).2 w ∧ (matL l h).1.map xsh = l.map xsh ∧ ∀ cs, OCells m l cs → OCells (m ++ t) (matL l h).1 cs
  | [], m, h, hi => ⟨[], [], by simp [matL], by simpa [matL] using hi, rfl, fun cs h => by simpa [matL] using h⟩
  | .nils (some k) :: r, m, h, hi => by
    obtain ⟨t, u, h1, h2, h3, h4⟩ := matL_rel r (add_nil hi k)
    simp only [matL]
    refine ⟨[ghOf none 0 [.seq k 0 []]] ++ t, [some ⟨false, [.seq k 0 []]⟩] ++ u, by rw [h1]; simp, by rw [← List.append_assoc]; exact h2, by simp only [List.map_cons, h3]; rfl, ?_⟩
    rintro cs ⟨a, b, rfl, ⟨v, rfl, hv⟩, hr⟩
    rw [← List.append_assoc]
    exact ⟨[v], b, rfl, ⟨v, rfl, (nils_full (k := k) hi hv).mono (pre_append _ _)⟩, h4 b (hr.mono (pre_append _ _))⟩
  | .nils none :: r, m, h, hi => by
    obtain ⟨t, u, h1, h2, h3, h4⟩ := matL_rel r hi
    exact ⟨t, u, h1, h2, by simp only [matL, List.map_cons, h3], by rintro cs ⟨a, b, rfl, hx, hr⟩; exact ⟨a, b, rfl, hx.mono (pre_append _ _), h4 b hr⟩⟩
  | .top :: r, m, h, hi => by
    obtain ⟨t, u, h1, h2, h3, h4⟩ := matL_rel r hi
    exact ⟨t, u, h1, h2, by simp only [matL, List.map_cons, h3], by rintro cs ⟨a, b, rfl, hx, hr⟩; exact ⟨a, b, rfl, hx.mono (pre_append _ _), h4 b hr⟩⟩
  | .int _ _ :: r, m, h, hi => by
    obtain ⟨t, u, h1, h2, h3, h4⟩ := matL_rel r hi
    exact ⟨t, u, h1, h2, by simp only [matL, List.map_cons, h3], by rintro cs ⟨a, b, rfl, hx, hr⟩; exact ⟨a, b, rfl, hx.mono (pre_append _ _), h4 b hr⟩⟩
  | .bool _ :: r, m, h, hi => by
    obtain ⟨t, u, h1, h2, h3, h4⟩ := matL_rel r hi
    exact ⟨t, u, h1, h2, by simp only [matL, List.map_cons, h3], by rintro cs ⟨a, b, rfl, hx, hr⟩; exact ⟨a, b, rfl, hx.mono (pre_append _ _), h4 b hr⟩⟩
  | .str _ :: r, m, h, hi => by
    obtain ⟨t, u, h1, h2, h3, h4⟩ := matL_rel r hi
    exact ⟨t, u, h1, h2, by simp only [matL, List.map_cons, h3], by rintro cs ⟨a, b, rfl, hx, hr⟩; exact ⟨a, b, rfl, hx.mono (pre_append _ _), h4 b hr⟩⟩
  | .nilp :: r, m, h, hi => by
    obtain ⟨t, u, h1, h2, h3, h4⟩ := matL_rel r hi
    exact ⟨t, u, h1, h2, by simp only [matL, List.map_cons, h3], by rintro cs ⟨a, b, rfl, hx, hr⟩; exact ⟨a, b, rfl, hx.mono (pre_append _ _), h4 b hr⟩⟩
  | .ptr _ _ :: r, m, h, hi => by
    obtain ⟨t, u, h1, h2, h3, h4⟩ := matL_rel r hi
    exact ⟨t, u, h1, h2, by simp only [matL, List.map_cons, h3], by rintro cs ⟨a, b, rfl, hx, hr⟩; exact ⟨a, b, rfl, hx.mono (pre_append _ _), h4 b hr⟩⟩
  | .pix _ _ _ _ :: r, m, h, hi => by
    obtain ⟨t, u, h1, h2, h3, h4⟩ := matL_rel r hi
    exact ⟨t, u, h1, h2, by simp only [matL, List.map_cons, h3], by rintro cs ⟨a, b, rfl, hx, hr⟩; exact ⟨a, b, rfl, hx.mono (pre_append _ _), h4 b hr⟩⟩
  | .full _ :: r, m, h, hi => by
    obtain ⟨t, u, h1, h2, h3, h4⟩ := matL_rel r hi
    exact ⟨t, u, h1, h2, by simp only [matL, List.map_cons, h3], by rintro cs ⟨a, b, rfl, hx, hr⟩; exact ⟨a, b, rfl, hx.mono (pre_append _ _), h4 b hr⟩⟩
  | .slice _ _ _ _ _ :: r, m, h, hi => by
    obtain ⟨t, u, h1, h2, h3, h4⟩ := matL_rel r hi
    exact ⟨t, u, h1, h2, by simp only [matL, List.map_cons, h3], by rintro cs ⟨a, b, rfl, hx, hr⟩; exact ⟨a, b, rfl, hx.mono (pre_append _ _), h4 b hr⟩⟩
  | .fn _ :: r, m, h, hi => by
    obtain ⟨t, u, h1, h2, h3, h4⟩ := matL_rel r hi
    exact ⟨t, u, h1, h2, by simp only [matL, List.map_cons, h3], by rintro cs ⟨a, b, rfl, hx, hr⟩; exact ⟨a, b, rfl, hx.mono (pre_append _ _), h4 b hr⟩⟩
  | .seq _ _ _ :: r, m, h, hi => by
    obtain ⟨t, u, h1, h2, h3, h4⟩ := matL_rel r hi
    exact ⟨t, u, h1, h2, by simp only [matL, List.map_cons, h3], by rintro cs ⟨a, b, rfl, hx, hr⟩; exact ⟨a, b, rfl, hx.mono (pre_append _ _), h4 b hr⟩⟩

theorem matV_rel (v : TV) (hi : Inv G m h w) : ∃ t u, (matV v h).2 = h ++ u ∧ Inv G (m ++ t) (matV v h).2 w ∧ ∀ x, TVRel m v x → TVRel (m ++ t) (matV v h).1 x := by
  unfold matV
  split
  · rename_i k
    exact ⟨[ghOf none 0 [.seq k 0 []]], _, rfl, add_nil hi k, fun x hx => nils_full (k := k) (q := some k) hi hx⟩
  · exact ⟨[], [], by simp, by simpa using hi, fun x hx => by simpa using hx⟩
  · rename_i l
    obtain ⟨t, u, h1, h2, h3, h4⟩ := matL_rel l hi
    exact ⟨t, u, h1, h2, by rintro x ⟨cs, rfl, ho⟩; exact ⟨cs, rfl, h4 _ ho⟩⟩

theorem matVs_rel : ∀ (l : List TV) {m : GM} {h : Heap} (_ : Inv G m h w), ∃ t u, (matVs l h).2 = h ++ u ∧ Inv G (m ++ t) (matVs l h).2 w ∧ ∀ xs, TVs m l xs → TVs (m ++ t) (matVs l h).1 xs
  | [], m, h, hi => ⟨[], [], by simp [matVs], by simpa [matVs] using hi, fun xs hx => by simpa [matVs] using hx⟩
  | v :: r, m, h, hi => by
    obtain ⟨t, u, h1, h2, h3⟩ := matV_rel v hi
    obtain ⟨t', u', h1', h2', h3'⟩ := matVs_rel r h2
    simp only [matVs]
    refine ⟨t ++ t', u ++ u', by rw [h1', h1, List.append_assoc], by rw [← List.append_assoc]; exact h2', fun xs hx => ?_⟩
    cases xs with
    | nil => exact hx.elim
    | cons x xs =>
      rw [← List.append_assoc]
      exact ⟨(h3 x hx.1).mono (pre_append _ _), h3' xs (hx.2.mono (pre_append _ _))⟩

theorem matH_rel : ∀ (n i : Nat) {m : GM} {h : Heap} (_ : Inv G m h w), ∃ t, Inv G (m ++ t) (matH n i h) w ∧ h.length ≤ (matH n i h).length
  | 0, i, m, h, hi => ⟨[], by simpa [matH] using hi, Nat.le_refl _⟩
  | n + 1, i, m, h, hi => by
    simp only [matH]
    split
    · rename_i ro es hob
      generalize hoe : (⟨ro, es⟩ : Ob) = ob at hob
      obtain ⟨rfl, rfl⟩ : ro = ob.ro ∧ es = ob.es := by subst hoe; exact ⟨rfl, rfl⟩
      obtain ⟨t, u, h1, h2, h3, h4⟩ := matL_rel ob.es hi
      have hob' : hget (matL ob.es h).2 i = some ob := by rw [h1, hget_append_left (hget_lt hob)]; exact hob
      have hsw : Inv G (m ++ t) (hset (matL ob.es h).2 i (some ⟨ob.ro, (matL ob.es h).1⟩)) w := by
        refine ⟨by rw [hset_length]; exact h2.len, fun j o gj hj hgj => ?_, fun j o gj c hj hgj hc => ?_, fun i' j oi oj gi gj b c hne q1 q2 q3 q4 q5 q6 q7 q8 => ?_, h2.str, h2.size, h2.frame⟩
        · rcases hget_hset hj with ⟨rfl, h0⟩ | ⟨hne, hj⟩
          · cases h0
            have hgm : m[j]? = some gj := by
              have := hget_lt hob
              rw [← hi.len] at this
              rwa [List.getElem?_append_left this] at hgj
            obtain ⟨hs, cs, hoc, hp⟩ := hi.obs j ob gj hob hgm
            exact ⟨seqG_xsh h3 hs, cs, h4 cs hoc, hp⟩
          · exact h2.obs j o gj hj hgj
        · rcases hget_hset hj with ⟨rfl, h0⟩ | ⟨hne, hj⟩
          · cases h0; exact h2.own j ob gj c hob' hgj hc
          · exact h2.own j o gj c hj hgj hc
        · rcases hget_hset q1 with ⟨e1, h0⟩ | ⟨n1, p1⟩
          · cases h0
            rcases hget_hset q2 with ⟨e2, _⟩ | ⟨n2, p2⟩
            · exact absurd (e1.trans e2.symm) hne
            · exact h2.dist i' j ob oj gi gj b c hne (by rw [e1]; exact hob') p2 q3 q4 q5 q6 q7 q8
          · rcases hget_hset q2 with ⟨e2, h0⟩ | ⟨n2, p2⟩
            · cases h0
              exact h2.dist i' j oi ob gi gj b c hne p1 (by rw [e2]; exact hob') q3 q4 q5 q6 q7 q8
            · exact h2.dist i' j oi oj gi gj b c hne p1 p2 q3 q4 q5 q6 q7 q8
      obtain ⟨t', h5, h6⟩ := matH_rel n (i + 1) hsw
      refine ⟨t ++ t', by rw [← List.append_assoc]; exact h5, Nat.le_trans ?_ h6⟩
      rw [hset_length, h1]; simp
    · exact matH_rel n (i + 1) hi

/-! ### A part of the heap -/

theorem memN_iff (a : Nat) (l : List Nat) : memN a l = true ↔ a ∈ l := by
  induction l with
  | nil => simp [memN]
  | cons b r ih => simp only [memN]; split <;> simp_all

theorem nodupB_get : ∀ {l : List Nat}, nodupB l = true → ∀ {i j a : Nat}, l[i]? = some a → l[j]? = some a → i = j
  | [], _, i, j, a, h1, _ => by simp at h1
  | b :: r, hn, i, j, a, h1, h2 => by
    simp only [nodupB, Bool.and_eq_true, Bool.not_eq_true'] at hn
    have hb : ∀ k : Nat, r[k]? = some b → False := fun k hk => by
      have : b ∈ r := List.mem_of_getElem? hk
      rw [← memN_iff] at this
      rw [this] at hn
      exact absurd hn.1 (by simp)
    cases i with
    | zero =>
      cases j with
      | zero => rfl
      | succ j => simp at h1 h2; subst h1; exact (hb j h2).elim
    | succ i =>
      cases j with
      | zero => simp at h1 h2; subst h2; exact (hb i h1).elim
      | succ j => simp at h1 h2; exact congrArg _ (nodupB_get hn.2 h1 h2)

theorem idx_get : ∀ {l : List Nat} {s x j : Nat}, idx l s x = some j → s ≤ j ∧ l[j - s]? = some x
  | [], s, x, j, h => by simp [idx] at h
  | a :: r, s, x, j, h => by
    simp only [idx] at h
    split at h
    · rename_i e
      simp only [Option.some.injEq] at h
      subst h e
      simp
    · obtain ⟨h1, h2⟩ := idx_get h
      refine ⟨by omega, ?_⟩
      rw [show j - s = (j - (s + 1)) + 1 by omega]
      simpa using h2

theorem pickH_get (f : Nat → Option Nat) : ∀ {sel : List Nat} {j : Nat} {ob : Ob}, hget (pickH h f sel) j = some ob → ∃ i o, sel[j]? = some i ∧ hget h i = some o ∧ ob = ⟨o.ro, renLs f o.es⟩
  | [], j, ob, hg => by simp [pickH, hget] at hg
  | i :: r, 0, ob, hg => by
    simp only [pickH, hget] at hg
    cases ho : hget h i with
    | none => rw [ho] at hg; simp [renO] at hg
    | some o => rw [ho] at hg; simp only [renO, Option.some.injEq] at hg; exact ⟨i, o, rfl, ho, hg.symm⟩
  | i :: r, j + 1, ob, hg => by
    simp only [pickH, hget] at hg
    obtain ⟨i', o, h1, h2, h3⟩ := pickH_get f hg
    exact ⟨i', o, by simpa using h1, h2, h3⟩

theorem pickH_length (f : Nat → Option Nat) (sel : List Nat) : (pickH h f sel).length = sel.length := by
  induction sel with
  | nil => rfl
  | cons i r ih => simp [pickH, ih]

def gh0 : Gh := ⟨none, 0, fun _ => 0, fun _ => 0⟩

def pickM (m : GM) (sel : List Nat) : GM := sel.map fun i => m.getD i gh0

theorem pickM_get {sel : List Nat} {j i : Nat} {g : Gh} (hs : sel[j]? = some i) (hg : m[i]? = some g) : (pickM m sel)[j]? = some g := by
  simp only [pickM, List.getElem?_map, hs, Option.map_some, List.getD_eq_getElem?_getD, hg, Option.getD_some]

theorem pickM_back {sel : List Nat} {j i : Nat} {g : Gh} (hs : sel[j]? = some i) (hi : i < m.length) (hg : (pickM m sel)[j]? = some g) : m[i]? = some g := by
  simp only [pickM, List.getElem?_map, hs, Option.map_some, Option.some.injEq, List.getD_eq_getElem?_getD] at hg
  rw [List.getElem?_eq_getElem hi] at hg ⊢
  simpa using hg

theorem pick_ren (sel : List Nat) : RenOK (idx sel 0) m (pickM m sel) := by
  intro id j hj g hg
  obtain ⟨_, h2⟩ := idx_get hj
  exact pickM_get (by simpa using h2) hg

/-- The invariant of a part of the heap, under the same care. -/
theorem Inv.pick (hi : Inv G m h w) {sel : List Nat} (hn : nodupB sel = true) : Inv G (pickM m sel) (pickH h (idx sel 0) sel) w := by
  refine ⟨by simp [pickM, pickH_length], fun j ob gj hj hgj => ?_, fun j ob gj c hj hgj hc => ?_, fun j1 j2 o1 o2 g1 g2 b c hne q1 q2 q3 q4 q5 q6 q7 q8 => ?_, hi.str, hi.size, hi.frame⟩
  · obtain ⟨i, o, h1, h2, rfl⟩ := pickH_get _ hj
    have hg := pickM_back h1 (by rw [hi.len]; exact hget_lt h2) hgj
    obtain ⟨hs, cs, hoc, hp⟩ := hi.obs i o gj h2 hg
    exact ⟨seqG_xsh (xsh_rens _ _) hs, cs, hoc.ren (pick_ren sel), hp⟩
  · obtain ⟨i, o, h1, h2, rfl⟩ := pickH_get _ hj
    exact hi.own i o gj c h2 (pickM_back h1 (by rw [hi.len]; exact hget_lt h2) hgj) hc
  · obtain ⟨i1, p1, a1, a2, rfl⟩ := pickH_get _ q1
    obtain ⟨i2, p2, b1, b2, rfl⟩ := pickH_get _ q2
    refine hi.dist i1 i2 p1 p2 g1 g2 b c (fun e => ?_) a2 b2 q3 q4 (pickM_back a1 (by rw [hi.len]; exact hget_lt a2) q5) (pickM_back b1 (by rw [hi.len]; exact hget_lt b2) q6) q7 q8
    subst e
    exact hne (nodupB_get hn a1 b1)

theorem seqN_get : ∀ (n s j : Nat), j < n → (seqN n s)[j]? = some (s + j)
  | 0, _, _, h => by omega
  | n + 1, s, 0, _ => by simp [seqN]
  | n + 1, s, j + 1, h => by
    simp only [seqN, List.getElem?_cons_succ]
    rw [seqN_get n (s + 1) j (by omega)]
    congr 1; omega

theorem seqN_length (n s : Nat) : (seqN n s).length = n := by
  induction n generalizing s with
  | zero => rfl
  | succ n ih => simp [seqN, ih]

/-- Values and the heap laid anew. -/
theorem normVs_sound (hi : Inv G m h w) {n0 : Nat} (hn0 : n0 ≤ m.length) {vs : List TV} {xs : List Value} (hx : TVs m vs xs) {K : List TV → Heap → Option Res} {r : Res} (hev : normVs n0 vs h K = some r) :
    ∃ vs' h' m', K vs' h' = some r ∧ Inv G m' h' w ∧ TVs m' vs' xs ∧ n0 ≤ m'.length ∧ ∀ i, i < n0 → m'[i]? = m[i]? := by
  unfold normVs at hev
  simp only at hev
  split at hev
  · cases hev
  · rename_i hnd
    obtain ⟨t, u, h1, h2, h3⟩ := matVs_rel vs hi
    obtain ⟨t', h4, h5⟩ := matH_rel (matVs vs h).2.length 0 h2
    have hn : nodupB (seqN n0 0 ++ dropLt n0 (reach (matH (matVs vs h).2.length 0 (matVs vs h).2) fuelR (seqN n0 0 ++ idsOfVs (matVs vs h).1) [])) = true := by
      cases hq : nodupB (seqN n0 0 ++ dropLt n0 (reach (matH (matVs vs h).2.length 0 (matVs vs h).2) fuelR (seqN n0 0 ++ idsOfVs (matVs vs h).1) [])) with
      | true => rfl
      | false => exact absurd (by rw [hq]; rfl) hnd
    refine ⟨_, _, _, hev, h4.pick hn, ((h3 xs hx).mono (pre_append _ _)).ren (pick_ren _), ?_, fun i hlt => ?_⟩
    · simp [pickM, seqN_length]
    · have hg : (m ++ t ++ t')[i]? = m[i]? := by
        rw [List.append_assoc, List.getElem?_append_left (by omega)]
      have hs : (seqN n0 0 ++ dropLt n0 (reach (matH (matVs vs h).2.length 0 (matVs vs h).2) fuelR (seqN n0 0 ++ idsOfVs (matVs vs h).1) []))[i]? = some i := by
        rw [List.getElem?_append_left (by rw [seqN_length]; exact hlt), seqN_get n0 0 i hlt, Nat.zero_add]
      have hm : m[i]? = some (m[i]'(by omega)) := List.getElem?_eq_getElem _
      rw [hm]
      exact pickM_get hs (by rw [hg, hm])

end
end Go.Proofs.Ytlokielmpdjedaa.Ev
