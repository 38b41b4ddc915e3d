/- Merged: GeoC, GeoD, TreeA, TreeB, GeoI, TreeC, PureTreeMakes. -/
import Derived.Test.YtjlolgpbidfmeaaMTreeMakes5
import Derived.Test.YtjlolgpbidfmeaaMTreeMakes4
import Derived.Test.YtjlolgpbidfmeaaMTreeMakes3
section
/- Trees' shapes: document and code reckon the same children; any seat. -/
namespace Go.Proofs.Ytjlolgpbidfmeaa.X
open Go Go.Proofs.Ytjlolgpbidfmeaa.Ev
set_option linter.unusedVariables false

theorem kids_mem0 {f s a q x : Int} : ∀ k : Nat, x ∈ kids f s a q k ↔ ∃ i : Nat, i < k ∧ q * f + i < a ∧ x = s + (q * f + i)
  | 0 => by simp [kids]
  | k + 1 => by
    simp only [kids, List.mem_append, kids_mem0 k]
    constructor
    · rintro (⟨i, h1, h2, h3⟩ | h)
      · exact ⟨i, by omega, h2, h3⟩
      · split at h
        · simp at h
          exact ⟨k, by omega, by assumption, h⟩
        · simp at h
    · rintro ⟨i, h1, h2, h3⟩
      by_cases hi : i = k
      · subst hi
        exact Or.inr (by rw [if_pos h2]; simp [h3])
      · exact Or.inl ⟨i, by omega, h2, h3⟩

theorem kids_mem {f s a q x : Int} (hf : 2 ≤ f ∧ f ≤ 4) (hq : 0 ≤ q) : x ∈ kids f s a q f.toNat ↔ s ≤ x ∧ x < s + a ∧ (x - s) / f = q := by
  rw [kids_mem0]
  have : f = 2 ∨ f = 3 ∨ f = 4 := by omega
  constructor
  · rintro ⟨i, h1, h2, h3⟩
    rcases this with rfl | rfl | rfl <;> simp at h1 <;> omega
  · rintro ⟨h1, h2, h3⟩
    refine ⟨((x - s) - q * f).toNat, ?_⟩
    rcases this with rfl | rfl | rfl <;> (simp only [Int.reduceToNat]; omega)

theorem kids_nodup {f s a q : Int} : ∀ k : Nat, (kids f s a q k).Pairwise (· < ·)
  | 0 => by simp [kids]
  | k + 1 => by
    simp only [kids]
    rw [List.pairwise_append]
    refine ⟨kids_nodup k, by split <;> simp, fun x hx y hy => ?_⟩
    obtain ⟨i, h1, h2, h3⟩ := (kids_mem0 k).1 hx
    split at hy
    · simp at hy; omega
    · simp at hy

def pos (L : List Int) : Prop := ∀ y ∈ L, 1 ≤ y ∧ y ≤ 128

theorem pos_tl {a : Int} {r : List Int} (h : pos (a :: r)) : (1 ≤ a ∧ a ≤ 128) ∧ pos r := ⟨h a (by simp), fun y hy => h y (by simp [hy])⟩

theorem sum_nn {L : List Int} (h : pos L) : 0 ≤ sumI L := by have := (sumI_ok L h).1; omega

theorem par_lt {f x : Int} : ∀ (L : List Int) (s : Int), pos L → x < s → par f x s L = -1
  | [], s, h, hx => rfl
  | [a], s, h, hx => rfl
  | a :: b :: r, s, h, hx => by
    have ha := (pos_tl h).1
    simp only [par]
    rw [if_neg (by omega)]
    exact par_lt (b :: r) _ (pos_tl h).2 (by omega)

theorem div_up {f a b y : Int} (hf : 2 ≤ f ∧ f ≤ 4) (hb : b = (a + f - 1) / f) (hy : 0 ≤ y ∧ y < a) : 0 ≤ y / f ∧ y / f < b := by
  have : f = 2 ∨ f = 3 ∨ f = 4 := by omega
  rcases this with rfl | rfl | rfl <;> omega

theorem par_bd {f x : Int} (hf : 2 ≤ f ∧ f ≤ 4) : ∀ (r : List Int) (a s : Int), pos (a :: r) → chain f (a :: r) → par f x s (a :: r) = -1 ∨ (s ≤ x ∧ x < par f x s (a :: r) ∧ s + a ≤ par f x s (a :: r) ∧ par f x s (a :: r) < s + sumI (a :: r))
  | [], a, s, h, hc => Or.inl rfl
  | b :: r, a, s, h, hc => by
    have ha := (pos_tl h).1
    have hb := (pos_tl (pos_tl h).2).1
    have hs := sum_nn (pos_tl (pos_tl h).2).2
    obtain ⟨h1, h2, h3⟩ := hc
    simp only [par]
    split
    · rename_i hx
      have := div_up (y := x - s) hf h2 (by omega)
      simp only [sumI]
      exact Or.inr (by omega)
    · rcases par_bd (x := x) hf r b (s + a) (pos_tl h).2 h3 with h4 | h4
      · exact Or.inl h4
      · refine Or.inr ?_
        simp only [sumI] at h4 ⊢
        omega

theorem mem_chl {f x k : Int} (hf : 2 ≤ f ∧ f ≤ 4) : ∀ (r : List Int) (a s : Int), pos (a :: r) → chain f (a :: r) → 0 ≤ s → 0 ≤ k → (x ∈ chl f k s (a :: r) ↔ par f x s (a :: r) = k)
  | [], a, s, h, hc, hs, hk => by simp [chl, par]; omega
  | b :: r, a, s, h, hc, hs, hk => by
    have ha := (pos_tl h).1
    have hb := (pos_tl (pos_tl h).2).1
    obtain ⟨h1, h2, h3⟩ := hc
    have hbd := par_bd (x := x) hf r b (s + a) (pos_tl h).2 h3
    have ih := mem_chl (x := x) (k := k) hf r b (s + a) (pos_tl h).2 h3 (by omega) hk
    simp only [par, chl]
    by_cases hq : s + a ≤ k ∧ k < s + a + b
    · rw [if_pos hq, kids_mem hf (by omega)]
      by_cases hx : s ≤ x ∧ x < s + a
      · rw [if_pos hx]; omega
      · rw [if_neg hx]; omega
    · rw [if_neg hq, ih]
      by_cases hx : s ≤ x ∧ x < s + a
      · rw [if_pos hx]
        have := div_up (y := x - s) hf h2 (by omega)
        have h0 := par_lt (f := f) (x := x) (b :: r) (s + a) (pos_tl h).2 (by omega)
        rw [h0]; omega
      · rw [if_neg hx]

theorem lvl_lt {x : Int} : ∀ (L : List Int) (s : Int) (i : Nat), pos L → x < s → lvl x s i L = none
  | [], _, _, _, _ => rfl
  | a :: r, s, i, h, hx => by
    have ha := (pos_tl h).1
    simp only [lvl]
    rw [if_neg (by omega)]
    exact lvl_lt r _ _ (pos_tl h).2 (by omega)

theorem chl_lvl {f x : Int} (L : List Int) : ∀ (r : List Int) (a s : Int) (i : Nat), L.drop i = a :: r →
    chl f x s (a :: r) = match lvl x (s + a) (i + 1) r with | some (j, t) => kids f (t - L.getD (j - 1) 0) (L.getD (j - 1) 0) (x - t) f.toNat | none => []
  | [], a, s, i, h => rfl
  | b :: r, a, s, i, h => by
    obtain ⟨h1, h2, h3⟩ := at_drop h
    have h4 : L.getD i 0 = a := by simpa using h2
    simp only [chl, lvl]
    by_cases hq : s + a ≤ x ∧ x < s + a + b
    · rw [if_pos hq, if_pos hq]
      simp only [Nat.add_sub_cancel, h4]
      rw [show s + a - a = s by omega]
    · rw [if_neg hq, if_neg hq]
      exact chl_lvl L r b (s + a) (i + 1) h3

theorem chs_chl {f x : Int} : ∀ L : List Int, pos L → chs f x L = chl f x 0 L
  | [], h => rfl
  | a :: r, h => by
    rw [chl_lvl (a :: r) r a 0 0 rfl]
    unfold chs
    simp only [lvl]
    by_cases hq : (0 : Int) ≤ x ∧ x < 0 + a
    · rw [if_pos hq, lvl_lt r _ _ (pos_tl h).2 (by omega)]
    · rw [if_neg hq]
      cases e : lvl x (0 + a) (0 + 1) r with
      | none => rfl
      | some v =>
        obtain ⟨j, t⟩ := v
        obtain ⟨p, a', q, e1, e2, e3, e4, e5⟩ := lvl_spec _ _ _ _ _ e
        cases j with
        | zero => omega
        | succ j => simp

theorem chs59l {β : Type} {x n f c u : Int} {K : List Int → Option β} (hf : 2 ≤ f ∧ f ≤ 4) {L : List Int} (hL : pos L) (hl : L.length ≤ 128) : ∀ (r : List Int) (i k : Nat) (s : Int), L.drop i = r → i ≤ L.length → r.length < k → 0 ≤ s → s ≤ 128 * i →
    f85_1_l4 20000 x n f c u L K (K []) k s (i : Int) = K (chl f x s r)
  | [], i, k, s, hd, hi, hk, h0, h1 => by
    cases k with
    | zero => omega
    | succ k =>
      have : i = L.length := by
        have := congrArg List.length hd
        simp at this; omega
      subst this
      simp only [f85_1_l4]
      rw [w64 (by omega) (by omega), cf (by omega)]
      rfl
  | [a], i, k, s, hd, hi, hk, h0, h1 => by
    cases k with
    | zero => omega
    | succ k =>
      have : i + 1 = L.length := by
        have := congrArg List.length hd
        simp at this; omega
      simp only [f85_1_l4]
      rw [w64 (by omega) (by omega), cf (by omega)]
      rfl
  | a :: b :: r, i, k, s, hd, hi, hk, h0, h1 => by
    cases k with
    | zero => omega
    | succ k =>
      obtain ⟨d1, d2, d3⟩ := at_drop hd
      obtain ⟨d4, d5, d6⟩ := at_drop d3
      have ha : 1 ≤ a ∧ a ≤ 128 := hL a (by
        have : a ∈ L.drop i := by rw [hd]; simp
        exact List.mem_of_mem_drop this)
      have hb : 1 ≤ b ∧ b ≤ 128 := hL b (by
        have : b ∈ L.drop (i + 1) := by rw [d3]; simp
        exact List.mem_of_mem_drop this)
      have e1 : IntKind.i64.wrap ((i : Int) + 1) = ((i + 1 : Nat) : Int) := by rw [w64 (by omega) (by omega)]; omega
      have ih := chs59l (x := x) (n := n) (c := c) (u := u) (K := K) hf hL hl (b :: r) (i + 1) k (s + a) d3 (by omega) (by simpa using hk) (by omega) (by omega)
      simp only [f85_1_l4]
      rw [e1, ct (by omega), ct (by omega), ct (by omega), d2, w64 (x := s + a) (by omega) (by omega)]
      simp only [chl]
      by_cases hq : x ≥ s + a
      · rw [ct hq, ct (by omega), ct (by omega), d5, w64 (x := s + a + b) (by omega) (by omega)]
        by_cases hq2 : x < s + a + b
        · rw [ct hq2, if_pos (by omega)]
          have := kids59 (F := 20000) (n := n) (c := c) (u := u) (K := K) (node := x) (s := s) (above := s + a) (a := a) (l := L) (j := i) hf (by omega) d1 d2 ha rfl (by omega) f.toNat 0 20000 (by omega) (by omega)
          simpa [kids] using this
        · rw [cf hq2, if_neg (by omega)]
          exact ih
      · rw [cf hq, if_neg (by omega)]
        exact ih

theorem lev_pos (n f c u : Int) : pos (levels n f c u) := (levels_ok n f c u).2

theorem levels_not {n f c u : Int} (h : ¬ rt n f c u) : levels n f c u = [] := by simp [levels, h]
theorem levels_cons {n f c u : Int} (h : rt n f c u) : ∃ r, levels n f c u = n :: r := ⟨_, by simp [levels, h]; rfl⟩

theorem lev_chain {n f c u : Int} : rt n f c u → chain f (levels n f c u) := fun h => by
  simp only [levels, h, if_true]
  have h1 := h.1
  exact chain_lv h.2.1 20000 n h1.1 h1.2 (by omega)

theorem nil59 {β : Type} {x n f c u : Int} {K : List Int → Option β} : ∀ k : Nat, 0 < k → f85_1_l4 20000 x n f c u [] K (K []) k 0 0 = K []
  | 0, h => by omega
  | k + 1, _ => by
    simp only [f85_1_l4]
    rw [w64 (by omega) (by omega), cf (by simp)]

theorem chs59 {β : Type} {n f c u x : Int} {K : List Int → Option β} : f85_1 20000 n f c u x K = K (chs f x (levels n f c u)) := by
  rw [chs_chl _ (lev_pos n f c u)]
  simp only [f85_1, levels49]
  by_cases h : rt n f c u
  · have := chs59l (x := x) (n := n) (c := c) (u := u) (K := K) h.2.1 (lev_pos n f c u) (levels_ok n f c u).1 _ 0 20000 0 rfl (by omega) (by have := (levels_ok n f c u).1; simp; omega) (by omega) (by omega)
    simpa using this
  · rw [levels_not h]
    exact nil59 20000 (by omega)

/-- The parent, by the levels. -/
def prn (n f c u x : Int) : Int := par f x 0 (levels n f c u)

theorem par_lvl {f x : Int} (hf : 2 ≤ f ∧ f ≤ 4) : ∀ (r : List Int) (a s : Int) (i : Nat), pos (a :: r) → chain f (a :: r) →
    par f x s (a :: r) = match lvl x s i (a :: r) with | some (j, t) => if x = s + sumI (a :: r) - 1 then -1 else t + (a :: r).getD (j - i) 0 + (x - t) / f | none => -1
  | [], a, s, i, h, hc => by
    have hc : a = 1 := hc
    subst hc
    have e1 : sumI [1] = 1 := rfl
    simp only [par, lvl]
    by_cases hx : s ≤ x ∧ x < s + 1
    · rw [if_pos hx]
      simp only
      rw [if_pos (by omega)]
    · rw [if_neg hx]
  | b :: r, a, s, i, h, hc => by
    have ha := (pos_tl h).1
    have hb := (pos_tl (pos_tl h).2).1
    have hs := sum_nn (pos_tl (pos_tl h).2).2
    obtain ⟨h1, h2, h3⟩ := hc
    rw [par, lvl]
    by_cases hx : s ≤ x ∧ x < s + a
    · have e1 : sumI (a :: b :: r) = a + (b + sumI r) := rfl
      rw [if_pos hx, if_pos hx]
      simp only
      rw [if_neg (by omega)]
      simp
    · rw [if_neg hx, if_neg hx, par_lvl hf r b (s + a) (i + 1) (pos_tl h).2 h3]
      cases e : lvl x (s + a) (i + 1) (b :: r) with
      | none => rfl
      | some v =>
        obtain ⟨j, t⟩ := v
        obtain ⟨p, a', q, e1, e2, e3, e4, e5⟩ := lvl_spec _ _ _ _ _ e
        simp only
        have g1 : s + sumI (a :: b :: r) - 1 = s + a + sumI (b :: r) - 1 := by simp only [sumI]; omega
        have g2 : (a :: b :: r).getD (j - i) 0 = (b :: r).getD (j - (i + 1)) 0 := by
          rw [show j - i = (j - (i + 1)) + 1 by omega]
          simp
        rw [g1, g2]

theorem chs_len (f x : Int) (L : List Int) : (chs f x L).length ≤ f.toNat := by
  unfold chs
  split
  · exact kids_len _ _ _ _ _
  · simp

theorem chs_mem {n f c u x k : Int} (h : rt n f c u) (hk : 0 ≤ k) : x ∈ chs f k (levels n f c u) ↔ prn n f c u x = k := by
  obtain ⟨r, hr⟩ := levels_cons h
  have hc := lev_chain h
  have hp := lev_pos n f c u
  rw [chs_chl _ hp, prn]
  rw [hr] at hc hp ⊢
  exact mem_chl h.2.1 r n 0 hp hc (by omega) hk

theorem prn_bd {n f c u x : Int} (h : rt n f c u) : prn n f c u x = -1 ∨ (0 ≤ x ∧ x < prn n f c u x ∧ n ≤ prn n f c u x ∧ prn n f c u x < nodes n f c u) := by
  obtain ⟨r, hr⟩ := levels_cons h
  have hc := lev_chain h
  have hp := lev_pos n f c u
  unfold nodes prn
  rw [hr] at hc hp ⊢
  have := par_bd (x := x) h.2.1 r n 0 hp hc
  omega

def root (n f c u : Int) : Int := if rt n f c u then nodes n f c u - 1 else 0

theorem root54 {β : Type} {n f c u : Int} {K : Int → Option β} : f81_1 20000 n f c u K = K (root n f c u) := by
  obtain ⟨n0, n1, n2, n3⟩ := nodes_ok n f c u
  simp only [f81_1, nodes50, root]
  rw [w64 (by omega) (by omega)]
  by_cases h : rt n f c u
  · have := n2 h
    rw [if_pos h]; congr 1; split <;> omega
  · rw [if_neg h, n3 h]; rfl

theorem root55 {β : Type} {n f c u : Int} {K : Int → Option β} : f90_1 20000 n f c u K = K (root n f c u) := by
  obtain ⟨n0, n1, n2, n3⟩ := nodes_ok n f c u
  simp only [f90_1, nodes51, root]
  rw [w64 (by omega) (by omega)]
  by_cases h : rt n f c u
  · have := n2 h
    rw [if_pos h]; congr 1; split <;> omega
  · rw [if_neg h, n3 h]; rfl

end Go.Proofs.Ytjlolgpbidfmeaa.X
end

section
/- Trees' shapes: which nodes have children; any seat. -/
namespace Go.Proofs.Ytjlolgpbidfmeaa.X
open Go Go.Proofs.Ytjlolgpbidfmeaa.Ev
set_option linter.unusedVariables false
theorem chl_ne {f k : Int} (hf : 2 ≤ f ∧ f ≤ 4) : ∀ (r : List Int) (a s : Int), pos (a :: r) → chain f (a :: r) → s + a ≤ k → k < s + sumI (a :: r) → chl f k s (a :: r) ≠ []
  | [], a, s, h, hc, h0, h1 => by
    have e1 : sumI [a] = a + 0 := rfl
    omega
  | b :: r, a, s, h, hc, h0, h1 => by
    obtain ⟨g1, g2, g3⟩ := hc
    have e1 : sumI (a :: b :: r) = a + sumI (b :: r) := rfl
    simp only [chl]
    by_cases hq : s + a ≤ k ∧ k < s + a + b
    · rw [if_pos hq]
      intro hn
      have hm := (kids_mem (f := f) (s := s) (a := a) (q := k - (s + a)) (x := s + (k - (s + a)) * f) hf (by omega)).2
      rw [hn] at hm
      have : f = 2 ∨ f = 3 ∨ f = 4 := by omega
      rcases this with rfl | rfl | rfl <;> exact List.not_mem_nil (hm (by omega))
    · rw [if_neg hq]
      exact chl_ne hf r b (s + a) (pos_tl h).2 g3 (by omega) (by omega)

theorem par_root {f x : Int} (hf : 2 ≤ f ∧ f ≤ 4) : ∀ (r : List Int) (a s : Int), pos (a :: r) → chain f (a :: r) → 0 ≤ s → s ≤ x → x < s + sumI (a :: r) → (par f x s (a :: r) = -1 ↔ x = s + sumI (a :: r) - 1)
  | [], a, s, h, hc, hs, h0, h1 => by
    have hc : a = 1 := hc
    subst hc
    have e1 : sumI [1] = 1 := rfl
    simp only [par, true_iff]
    omega
  | b :: r, a, s, h, hc, hs, h0, h1 => by
    have ha := (pos_tl h).1
    have hb := (pos_tl (pos_tl h).2).1
    have hn := sum_nn (pos_tl (pos_tl h).2).2
    have e1 : sumI (a :: b :: r) = a + sumI (b :: r) := rfl
    have e2 : sumI (b :: r) = b + sumI r := rfl
    obtain ⟨g1, g2, g3⟩ := hc
    simp only [par]
    by_cases hx : s ≤ x ∧ x < s + a
    · have hd := div_up (y := x - s) hf g2 (by omega)
      rw [if_pos hx]
      omega
    · rw [if_neg hx, par_root hf r b (s + a) (pos_tl h).2 g3 (by omega) (by omega) (by omega)]
      omega

theorem chs_empty {n f c u k : Int} (h : rt n f c u) (h0 : 0 ≤ k) (h1 : k < nodes n f c u) : (((chs f k (levels n f c u)).length : Int) == 0) = decide (k < n) := by
  by_cases hk : k < n
  · have : chs f k (levels n f c u) = [] := by
      apply List.eq_nil_iff_forall_not_mem.2
      intro x hx
      have := (chs_mem h h0).1 hx
      have := prn_bd (x := x) h
      omega
    simp [this, hk]
  · have : chs f k (levels n f c u) ≠ [] := by
      obtain ⟨r, hr⟩ := levels_cons h
      have hc := lev_chain h
      have hp := lev_pos n f c u
      unfold nodes at h1
      rw [chs_chl _ hp]
      rw [hr] at hc hp h1 ⊢
      exact chl_ne h.2.1 r n 0 hp hc (by omega) (by omega)
    have : (chs f k (levels n f c u)).length ≠ 0 := fun h => this (List.length_eq_zero_iff.1 h)
    simp only [hk, decide_false]
    simpa using this

theorem prn_root {n f c u x : Int} (h : rt n f c u) (h0 : 0 ≤ x) (h1 : x < nodes n f c u) : prn n f c u x = -1 ↔ x = nodes n f c u - 1 := by
  obtain ⟨r, hr⟩ := levels_cons h
  have hc := lev_chain h
  have hp := lev_pos n f c u
  unfold nodes at h1 ⊢
  unfold prn
  rw [hr] at hc hp h1 ⊢
  have := par_root (x := x) h.2.1 r n 0 hp hc (by omega) h0 (by omega)
  omega

theorem chs_sorted {n f c u k : Int} : (chs f k (levels n f c u)).Pairwise (· < ·) := by
  unfold chs
  split
  · exact kids_nodup _
  · exact List.Pairwise.nil

theorem n_le {n f c u : Int} (h : rt n f c u) : n ≤ nodes n f c u := by
  obtain ⟨r, hr⟩ := levels_cons h
  have hp := lev_pos n f c u
  unfold nodes
  rw [hr] at hp ⊢
  have := sum_nn (pos_tl hp).2
  simp only [sumI]; omega

theorem sum_up {f : Int} (hf : 2 ≤ f ∧ f ≤ 4) : ∀ (r : List Int) (a : Int), pos (a :: r) → chain f (a :: r) → sumI (a :: r) ≤ 3 * a - 2
  | [], a, h, hc => by
    have hc : a = 1 := hc
    subst hc
    decide
  | b :: r, a, h, hc => by
    obtain ⟨g1, g2, g3⟩ := hc
    have e1 : sumI (a :: b :: r) = a + sumI (b :: r) := rfl
    have ih := sum_up hf r b (pos_tl h).2 g3
    have : f = 2 ∨ f = 3 ∨ f = 4 := by omega
    rcases this with rfl | rfl | rfl <;> omega

theorem nodes_up {n f c u : Int} (h : rt n f c u) : nodes n f c u ≤ 384 := by
  obtain ⟨r, hr⟩ := levels_cons h
  have hc := lev_chain h
  have hp := lev_pos n f c u
  have h1 := h.1
  unfold nodes
  rw [hr] at hc hp ⊢
  have := sum_up h.2.1 r n hp hc
  omega

end Go.Proofs.Ytjlolgpbidfmeaa.X
end

section
/- Digests of sectors and of nodes: the code's and the document's are one. -/
namespace Go.Proofs.Ytjlolgpbidfmeaa.X
open Go Go.Proofs.Ytjlolgpbidfmeaa.Ev
set_option linter.unusedVariables false

theorem toInts_app (a b : ByteArray) : toInts (a ++ b) = toInts a ++ toInts b := by simp [toInts]
theorem toInts_len (a : ByteArray) : (toInts a).length = a.size := by simp [toInts]
theorem ofInts_size (l : List Int) : (ofInts l).size = l.length := by simp [ofInts, ByteArray.size]
theorem toInts_one (c : UInt8) : toInts ⟨#[c]⟩ = [(c.toNat : Int)] := rfl
theorem outs_len (s : List Int) : ∀ (m i : Nat) (acc : List Int), (outs s m i acc).length = acc.length + 4 * m
  | 0, i, acc => rfl
  | m + 1, i, acc => by simp only [outs]; rw [outs_len s m]; simp; omega
theorem dig_size (b : List Int) : (dig b).size = 32 := by simp [dig, ofInts_size, outs_len]

def leafD (s : ByteArray) : ByteArray := dig (0 :: toInts s)
def flat : List ByteArray → List Int
  | [] => []
  | x :: r => toInts x ++ flat r
def nodeD (l : List ByteArray) : ByteArray := dig (1 :: flat l)

theorem atB {l r : List ByteArray} {x : ByteArray} {i : Nat} (hd : l.drop i = x :: r) : i < l.length ∧ l.getD (0 + (i : Int).toNat) ByteArray.empty = x ∧ l.drop (i + 1) = r := by
  have hlen : l.length - i = r.length + 1 := by
    have := congrArg List.length hd
    simpa using this
  have hx : l[i]? = some x := by
    have := congrArg (·[0]?) hd
    simpa using this
  refine ⟨by omega, ?_, ?_⟩
  · rw [List.getD_eq_getElem?_getD]; simp [hx]
  · rw [← List.drop_drop, hd]; rfl

theorem nilB {l : List ByteArray} {i : Nat} (hd : l.drop i = []) (hi : i ≤ l.length) : i = l.length := by
  have := congrArg List.length hd
  simp at this; omega

theorem tagL {β : Type} {F : Nat} {l : List ByteArray} {K : List Int → Int → List Int → Option β} (hF : 2000 ≤ F) (hl : l.length ≤ 100000) : ∀ (r : List ByteArray) (i k : Nat) (all s w : List Int) (n : Int), l.drop i = r → i ≤ l.length → r.length < k → HS all s n w → (all ++ flat r).length ≤ 100000 →
    ∃ s' n' w', HS (all ++ flat r) s' n' w' ∧ f68_1_l4 F ((l.length : Nat) : Int) l K k (i : Int) s n w = K s' n' w'
  | [], i, k, all, s, w, n, hd, hi, hk, h, hb => by
    obtain ⟨k, rfl⟩ : ∃ j, k = j + 1 := ⟨k - 1, by omega⟩
    have := nilB hd hi
    refine ⟨s, n, w, by simpa [flat] using h, ?_⟩
    simp only [f68_1_l4]
    rw [cf (by omega)]
  | x :: r, i, k, all, s, w, n, hd, hi, hk, h, hb => by
    obtain ⟨k, rfl⟩ : ∃ j, k = j + 1 := ⟨k - 1, by omega⟩
    obtain ⟨d1, d2, d3⟩ := atB hd
    have hb2 : (all ++ toInts x).length ≤ 100000 := by simp [flat] at hb ⊢; omega
    simp only [f68_1_l4]
    rw [ct (by omega), ct (by omega), ct (by omega), d2, w64 (by omega) (by omega), show ((i : Int) + 1) = ((i + 1 : Nat) : Int) by omega]
    obtain ⟨s1, w1, h1, h2⟩ := writeP (F := F) (b := toInts x) (K := fun x12 x13 x14 => f68_1_l4 F ((l.length : Nat) : Int) l K k ((i + 1 : Nat) : Int) x12 x13 x14) hF h hb2
    obtain ⟨s2, n2, w2, h3, h4⟩ := tagL (K := K) hF hl r (i + 1) k (all ++ toInts x) s1 w1 _ d3 (by omega) (by simpa using hk) h1 (by simpa [flat] using hb)
    refine ⟨s2, n2, w2, by simpa [flat] using h3, ?_⟩
    rw [h2, h4]

theorem flat_len : ∀ l : List ByteArray, l.length ≤ 100000 → (∀ x ∈ l, x.size ≤ 100) → (flat l).length ≤ 100 * l.length
  | [], _, _ => by simp [flat]
  | x :: r, h, hx => by
    have := flat_len r (by simp at h; omega) fun y hy => hx y (by simp [hy])
    have h2 := hx x (by simp)
    simp only [flat, List.length_append, toInts_len, List.length_cons]
    omega

theorem tagged {β : Type} {F : Nat} {a : Int} {l : List ByteArray} {K : ByteArray → Option β} (hF : 2000 ≤ F) (hl : l.length ≤ 900) (hs : ∀ x ∈ l, x.size ≤ 100) : f68_1 F a l K = K (dig (a :: flat l)) := by
  have hb := flat_len l (by omega) hs
  simp only [f68_1, f112_1, f131_1]
  obtain ⟨s', w', h1, h2⟩ := writeP (F := F) (b := [a]) (K := fun x3 x4 x5 => f68_1_l4 F ((l.length : Nat) : Int) l (fun x15 x16 x17 => f114_1 F x15 x16 x17 fun x18 => K x18) F 0 x3 x4 x5) hF HS_nil (by simp)
  obtain ⟨s2, n2, w2, h3, h4⟩ := tagL (F := F) (l := l) (K := fun x15 x16 x17 => f114_1 F x15 x16 x17 fun x18 => K x18) hF (by omega) l 0 F ([] ++ [a]) s' w' _ rfl (by omega) (by omega) h1 (by simp; omega)
  refine h2.trans ?_
  refine h4.trans ?_
  rw [sumP hF h3 (by simp; omega)]
  rfl

theorem leafP {β : Type} {F : Nat} {x : ByteArray} {K : ByteArray → Option β} (hF : 2000 ≤ F) (hx : x.size ≤ 100) : f16_1 F x K = K (leafD x) := by
  simp only [f16_1]
  rw [tagged hF (by simp) (by simpa using hx)]
  simp [leafD, flat]

theorem leafR {β : Type} {F : Nat} {x : ByteArray} {K : ByteArray → Option β} (hF : 2000 ≤ F) (hx : x.size ≤ 100) : f17_1 F x K = K (leafD x) := by
  have h1 : (⟨#[0]⟩ : ByteArray).size = 1 := rfl
  simp only [f17_1]
  rw [ct (by omega), toInts_app, sumR (by simp [toInts_len, h1]; omega) hF]
  rfl

theorem nodeP {β : Type} {F : Nat} {l : List ByteArray} {K : ByteArray → Option β} (hF : 2000 ≤ F) (hl : l.length ≤ 900) (hs : ∀ x ∈ l, x.size ≤ 100) : f18_1 F l K = K (nodeD l) := by
  simp only [f18_1]
  rw [tagged hF hl hs]
  rfl

def cat : ByteArray → List ByteArray → ByteArray
  | s, [] => s
  | s, x :: r => cat (s ++ x) r

theorem cat_ints : ∀ (r : List ByteArray) (s : ByteArray), toInts (cat s r) = toInts s ++ flat r
  | [], s => by simp [cat, flat]
  | x :: r, s => by simp [cat, flat, cat_ints r, toInts_app]

theorem nodeL {β : Type} {F : Nat} {l : List ByteArray} {K : ByteArray → Option β} (hl : l.length ≤ 900) (hs : ∀ x ∈ l, x.size ≤ 100) : ∀ (r : List ByteArray) (i k : Nat) (s : ByteArray), l.drop i = r → i ≤ l.length → r.length < k → s.size ≤ 100 * i + 1 →
    f19_1_l3 F l K k s (i : Int) = K (cat s r)
  | [], i, k, s, hd, hi, hk, hb => by
    obtain ⟨k, rfl⟩ : ∃ j, k = j + 1 := ⟨k - 1, by omega⟩
    have := nilB hd hi
    simp only [f19_1_l3]
    rw [cf (by omega)]; rfl
  | x :: r, i, k, s, hd, hi, hk, hb => by
    obtain ⟨k, rfl⟩ : ∃ j, k = j + 1 := ⟨k - 1, by omega⟩
    obtain ⟨d1, d2, d3⟩ := atB hd
    have hx := hs x (by
      have : x ∈ l.drop i := by rw [hd]; simp
      exact List.mem_of_mem_drop this)
    simp only [f19_1_l3]
    rw [ct (by omega), ct (by omega), ct (by omega), d2, ct (by omega), w64 (by omega) (by omega), show ((i : Int) + 1) = ((i + 1 : Nat) : Int) by omega]
    exact nodeL hl hs r (i + 1) k _ d3 (by omega) (by simpa using hk) (by rw [ByteArray.size_append]; omega)

theorem nodeR {β : Type} {F : Nat} {l : List ByteArray} {K : ByteArray → Option β} (hF : 2000 ≤ F) (hl : l.length ≤ 900) (hs : ∀ x ∈ l, x.size ≤ 100) : f19_1 F l K = K (nodeD l) := by
  have hb := flat_len l (by omega) hs
  have h1 : (⟨#[1]⟩ : ByteArray).size = 1 := rfl
  have := nodeL (F := F) (K := fun x4 => f69_1 F (toInts x4) fun x5 => K x5) hl hs l 0 F ⟨#[1]⟩ rfl (by omega) (by omega) (by omega)
  simp only [f19_1]
  refine Eq.trans this ?_
  rw [cat_ints, sumR (by simp [toInts_len, h1]; omega) hF]
  rfl

end Go.Proofs.Ytjlolgpbidfmeaa.X
end

section
/- Trees: the code's and the document's nodes, New and From are one. -/
namespace Go.Proofs.Ytjlolgpbidfmeaa.X
open Go Go.Proofs.Ytjlolgpbidfmeaa.Ev
set_option linter.unusedVariables false

def D32 (L : List ByteArray) : Prop := ∀ d ∈ L, d.size = 32

theorem getB_mem {l : List ByteArray} {j : Nat} (h : j < l.length) : l.getD j ByteArray.empty ∈ l := by
  rw [List.getD_eq_getElem?_getD, List.getElem?_eq_getElem h]; simp

theorem atI {l r : List Int} {x : Int} {i : Nat} (hd : l.drop i = x :: r) : i < l.length ∧ l.getD (0 + (i : Int).toNat) 0 = x ∧ l.drop (i + 1) = r := at_drop hd
theorem nilI {l : List Int} {i : Nat} (hd : l.drop i = []) (hi : i ≤ l.length) : i = l.length := by
  have := congrArg List.length hd
  simp at this; omega

def gets (L : List ByteArray) (cs : List Int) : List ByteArray := cs.map fun c => L.getD c.toNat ByteArray.empty
/-- A node's digest, by its children's. -/
def abv (n f c u : Int) (L : List ByteArray) (k : Int) : ByteArray := nodeD (gets L (chs f k (levels n f c u)))

theorem above82 {β : Type} {F : Nat} {n f c u : Int} {L : List ByteArray} {cs : List Int} {K : List ByteArray → Option β} (hL : ∀ x ∈ cs, 0 ≤ x ∧ x < L.length) (hl : cs.length ≤ 100) : ∀ (r : List Int) (i k : Nat) (acc : List ByteArray), cs.drop i = r → i ≤ cs.length → r.length < k → acc.length = i →
    f82_1_l3 F ((cs.length : Nat) : Int) n f c u L cs K k (i : Int) acc = K (acc ++ gets L r)
  | [], i, k, acc, hd, hi, hk, ha => by
    obtain ⟨k, rfl⟩ : ∃ j, k = j + 1 := ⟨k - 1, by omega⟩
    have := nilI hd hi
    simp only [f82_1_l3]
    rw [cf (by omega)]; simp [gets]
  | x :: r, i, k, acc, hd, hi, hk, ha => by
    obtain ⟨k, rfl⟩ : ∃ j, k = j + 1 := ⟨k - 1, by omega⟩
    obtain ⟨d1, d2, d3⟩ := atI hd
    have hx := hL x (by
      have : x ∈ cs.drop i := by rw [hd]; simp
      exact List.mem_of_mem_drop this)
    simp only [f82_1_l3]
    rw [ct (by omega), ct (by omega), ct (by omega), d2, ct (by omega), ct (by omega), ct (by omega), w64 (by omega) (by omega), show ((i : Int) + 1) = ((i + 1 : Nat) : Int) by omega,
      above82 hL hl r (i + 1) k _ d3 (by omega) (by simpa using hk) (by simp; omega)]
    simp [gets]

theorem above92 {β : Type} {F : Nat} {L : List ByteArray} {cs : List Int} {K : List ByteArray → Option β} (hL : ∀ x ∈ cs, 0 ≤ x ∧ x < L.length) (hl : cs.length ≤ 100) : ∀ (r : List Int) (i k : Nat) (acc : List ByteArray), cs.drop i = r → i ≤ cs.length → r.length < k → acc.length = i →
    f92_1_l4 F L cs K k (i : Int) acc = K (acc ++ gets L r)
  | [], i, k, acc, hd, hi, hk, ha => by
    obtain ⟨k, rfl⟩ : ∃ j, k = j + 1 := ⟨k - 1, by omega⟩
    have := nilI hd hi
    simp only [f92_1_l4]
    rw [cf (by omega)]; simp [gets]
  | x :: r, i, k, acc, hd, hi, hk, ha => by
    obtain ⟨k, rfl⟩ : ∃ j, k = j + 1 := ⟨k - 1, by omega⟩
    obtain ⟨d1, d2, d3⟩ := atI hd
    have hx := hL x (by
      have : x ∈ cs.drop i := by rw [hd]; simp
      exact List.mem_of_mem_drop this)
    simp only [f92_1_l4]
    rw [ct (by omega), ct (by omega), ct (by omega), d2, ct (by omega), ct (by omega), ct (by omega), w64 (by omega) (by omega), show ((i : Int) + 1) = ((i + 1 : Nat) : Int) by omega,
      above92 hL hl r (i + 1) k _ d3 (by omega) (by simpa using hk) (by simp; omega)]
    simp [gets]

theorem chs_lt {n f c u k : Int} (h : rt n f c u) (hk : 0 ≤ k) : ∀ x ∈ chs f k (levels n f c u), 0 ≤ x ∧ x < k := by
  intro x hx
  have h1 := (chs_mem h hk).1 hx
  have h2 := prn_bd (x := x) h
  omega

theorem gets_size {L : List ByteArray} {cs : List Int} (hd : D32 L) (hL : ∀ x ∈ cs, 0 ≤ x ∧ x < L.length) : ∀ y ∈ gets L cs, y.size ≤ 100 := by
  intro y hy
  obtain ⟨x, hx, rfl⟩ := List.mem_map.1 hy
  have := hL x hx
  rw [hd _ (getB_mem (by omega))]; omega

theorem aboveP {β : Type} {n f c u k : Int} {L : List ByteArray} {K : ByteArray → Option β} (h : rt n f c u) (hk : 0 ≤ k) (hkl : k ≤ L.length) (hd : D32 L) : f82_1 20000 k n f c u L K = K (abv n f c u L k) := by
  have hl := chs_len f k (levels n f c u)
  have hf := h.2.1
  have hc : ∀ x ∈ chs f k (levels n f c u), 0 ≤ x ∧ x < L.length := fun x hx => by have := chs_lt h hk x hx; omega
  have hn : (gets L (chs f k (levels n f c u))).length ≤ 900 := by simp [gets]; omega
  simp only [f82_1, chs58]
  have := above82 (F := 20000) (n := n) (f := f) (c := c) (u := u) (K := fun x11 => f18_1 20000 x11 fun x12 => K x12) hc (by omega) _ 0 20000 [] rfl (by omega) (by simp; omega) rfl
  rw [show ((0 : Nat) : Int) = 0 from rfl] at this
  rw [this, List.nil_append, List.drop_zero, nodeP (by omega) hn (gets_size hd hc)]
  rfl

theorem aboveR {β : Type} {n f c u k : Int} {L : List ByteArray} {K : ByteArray → Option β} (h : rt n f c u) (hk : 0 ≤ k) (hkl : k ≤ L.length) (hd : D32 L) : f92_1 20000 n f c u k L K = K (abv n f c u L k) := by
  have hl := chs_len f k (levels n f c u)
  have hf := h.2.1
  have hc : ∀ x ∈ chs f k (levels n f c u), 0 ≤ x ∧ x < L.length := fun x hx => by have := chs_lt h hk x hx; omega
  have hn : (gets L (chs f k (levels n f c u))).length ≤ 900 := by simp [gets]; omega
  simp only [f92_1, chs59]
  have := above92 (F := 20000) (L := L) (K := fun x11 => f19_1 20000 x11 fun x12 => K x12) hc (by omega) _ 0 20000 [] rfl (by omega) (by simp; omega) rfl
  rw [show ((0 : Nat) : Int) = 0 from rfl] at this
  rw [this, List.nil_append, List.drop_zero, nodeR (by omega) hn (gets_size hd hc)]
  rfl

/-- Nodes above the leaves, one after another. -/
def bld (n f c u : Int) : Nat → List ByteArray → List ByteArray
  | 0, L => L
  | m + 1, L => bld n f c u m (L ++ [abv n f c u L (L.length : Int)])

theorem D32_app {L : List ByteArray} {x : ByteArray} (h : D32 L) (hx : x.size = 32) : D32 (L ++ [x]) := by
  intro y hy
  rcases List.mem_append.1 hy with hy | hy
  · exact h y hy
  · simp at hy; rw [hy]; exact hx

theorem bld_ok (n f c u : Int) : ∀ (m : Nat) (L : List ByteArray), D32 L → D32 (bld n f c u m L) ∧ (bld n f c u m L).length = L.length + m
  | 0, L, h => ⟨h, rfl⟩
  | m + 1, L, h => by
    obtain ⟨q1, q2⟩ := bld_ok n f c u m (L ++ [abv n f c u L (L.length : Int)]) (D32_app h (dig_size _))
    exact ⟨q1, by rw [bld, q2]; simp; omega⟩

theorem newNodes {β : Type} {n f c u : Int} {l : List ByteArray} {K : List ByteArray → Option β} (h : rt n f c u) : ∀ (m k : Nat) (L : List ByteArray), (L.length : Int) + m = nodes n f c u → m < k → D32 L →
    f30_1_l14 20000 l n f c u n f c u K k (L.length : Int) L = K (bld n f c u m L)
  | 0, k, L, hm, hk, hd => by
    obtain ⟨k, rfl⟩ : ∃ j, k = j + 1 := ⟨k - 1, by omega⟩
    simp only [f30_1_l14, root54, root, if_pos h]
    rw [cf (by omega)]; rfl
  | m + 1, k, L, hm, hk, hd => by
    obtain ⟨k, rfl⟩ : ∃ j, k = j + 1 := ⟨k - 1, by omega⟩
    have hn := nodes_ok n f c u
    simp only [f30_1_l14, root54, root, if_pos h]
    rw [ct (by omega), aboveP h (by omega) (by omega) hd, ct (by omega), w64 (by omega) (by omega), show ((L.length : Int) + 1) = ((L ++ [abv n f c u L (L.length : Int)]).length : Int) by simp]
    exact newNodes h m k _ (by simp; omega) (by omega) (D32_app hd (dig_size _))

theorem newNodesR {β : Type} {n f c u : Int} {l : List ByteArray} {K : List ByteArray → Option β} (h : rt n f c u) : ∀ (m k : Nat) (L : List ByteArray), (L.length : Int) + m = nodes n f c u → m < k → D32 L →
    f38_1_l14 20000 (nodes n f c u) l n f c u n f c u K k (L.length : Int) L = K (bld n f c u m L)
  | 0, k, L, hm, hk, hd => by
    obtain ⟨k, rfl⟩ : ∃ j, k = j + 1 := ⟨k - 1, by omega⟩
    simp only [f38_1_l14]
    rw [cf (by omega)]; rfl
  | m + 1, k, L, hm, hk, hd => by
    obtain ⟨k, rfl⟩ : ∃ j, k = j + 1 := ⟨k - 1, by omega⟩
    have hn := nodes_ok n f c u
    simp only [f38_1_l14]
    rw [ct (by omega), aboveR h (by omega) (by omega) hd, ct (by omega), w64 (by omega) (by omega), show ((L.length : Int) + 1) = ((L ++ [abv n f c u L (L.length : Int)]).length : Int) by simp]
    exact newNodesR h m k _ (by simp; omega) (by omega) (D32_app hd (dig_size _))

def bad64 (s : ByteArray) : Bool := !((s.size : Int) == 64)
def bad32 (s : ByteArray) : Bool := !((s.size : Int) == 32)

theorem any64 {β : Type} {F : Nat} {l : List ByteArray} {K0 : Int → Option β} {K1 : Option β} {K : Bool → Option β} (hl : l.length ≤ 10000) (h0 : ∀ i : Nat, K0 (i : Int) = K true) (h1 : K1 = K false) : ∀ (r : List ByteArray) (i k : Nat), l.drop i = r → i ≤ l.length → r.length < k →
    f122_2911_l2 F ((l.length : Nat) : Int) l K0 K1 k (i : Int) = K (r.any bad64)
  | [], i, k, hd, hi, hk => by
    obtain ⟨k, rfl⟩ : ∃ j, k = j + 1 := ⟨k - 1, by omega⟩
    have := nilB hd hi
    simp only [f122_2911_l2]
    rw [cf (by omega), h1]; rfl
  | x :: r, i, k, hd, hi, hk => by
    obtain ⟨k, rfl⟩ : ∃ j, k = j + 1 := ⟨k - 1, by omega⟩
    obtain ⟨d1, d2, d3⟩ := atB hd
    simp only [f122_2911_l2, f79_1, f80_1]
    rw [ct (by omega), ct (by omega), ct (by omega), d2, w64 (by omega) (by omega), show ((i : Int) + 1) = ((i + 1 : Nat) : Int) by omega, any64 hl h0 h1 r (i + 1) k d3 (by omega) (by simpa using hk), h0]
    simp only [List.any_cons, bad64]
    cases (x.size : Int) == 64 <;> rfl

theorem any32 {β : Type} {F : Nat} {l : List ByteArray} {K0 : Int → Option β} {K1 : Option β} {K : Bool → Option β} (hl : l.length ≤ 10000) (h0 : ∀ i : Nat, K0 (i : Int) = K true) (h1 : K1 = K false) : ∀ (r : List ByteArray) (i k : Nat), l.drop i = r → i ≤ l.length → r.length < k →
    f122_1421_l2 F ((l.length : Nat) : Int) l K0 K1 k (i : Int) = K (r.any bad32)
  | [], i, k, hd, hi, hk => by
    obtain ⟨k, rfl⟩ : ∃ j, k = j + 1 := ⟨k - 1, by omega⟩
    have := nilB hd hi
    simp only [f122_1421_l2]
    rw [cf (by omega), h1]; rfl
  | x :: r, i, k, hd, hi, hk => by
    obtain ⟨k, rfl⟩ : ∃ j, k = j + 1 := ⟨k - 1, by omega⟩
    obtain ⟨d1, d2, d3⟩ := atB hd
    simp only [f122_1421_l2, f87_1, f20_1]
    rw [ct (by omega), ct (by omega), ct (by omega), d2, w64 (by omega) (by omega), show ((i : Int) + 1) = ((i + 1 : Nat) : Int) by omega, any32 hl h0 h1 r (i + 1) k d3 (by omega) (by simpa using hk), h0]
    simp only [List.any_cons, bad32]
    cases (x.size : Int) == 32 <;> rfl

theorem contains64 {β : Type} {F : Nat} {l : List ByteArray} {K : Bool → Option β} (hl : l.length ≤ 10000) (hF : 10000 < F) : f78_2911 F l K = K (l.any bad64) := by
  simp only [f78_2911, f122_2911]
  exact any64 (F := F) (K0 := fun x5 => K (decide (x5 ≥ 0))) (K1 := K (decide ((-1 : Int) ≥ 0))) (K := K) hl (fun i => by simp) rfl l 0 F rfl (by omega) (by omega)

theorem contains32 {β : Type} {F : Nat} {l : List ByteArray} {K : Bool → Option β} (hl : l.length ≤ 10000) (hF : 10000 < F) : f78_1421 F l K = K (l.any bad32) := by
  simp only [f78_1421, f122_1421]
  exact any32 (F := F) (K0 := fun x5 => K (decide (x5 ≥ 0))) (K1 := K (decide ((-1 : Int) ≥ 0))) (K := K) hl (fun i => by simp) rfl l 0 F rfl (by omega) (by omega)

theorem leavesP {β : Type} {F : Nat} {n f c u : Int} {l : List ByteArray} {K : List ByteArray → Option β} (hF : 2000 ≤ F) (hl : l.length ≤ 10000) (h64 : ∀ x ∈ l, x.size = 64) : ∀ (r : List ByteArray) (i k : Nat) (acc : List ByteArray), l.drop i = r → i ≤ l.length → r.length < k → acc.length = i →
    f30_1_l9 F ((l.length : Nat) : Int) l n f c u n f c u K k (i : Int) acc = K (acc ++ r.map leafD)
  | [], i, k, acc, hd, hi, hk, ha => by
    obtain ⟨k, rfl⟩ : ∃ j, k = j + 1 := ⟨k - 1, by omega⟩
    have := nilB hd hi
    simp only [f30_1_l9]
    rw [cf (by omega)]; simp
  | x :: r, i, k, acc, hd, hi, hk, ha => by
    obtain ⟨k, rfl⟩ : ∃ j, k = j + 1 := ⟨k - 1, by omega⟩
    obtain ⟨d1, d2, d3⟩ := atB hd
    have hx := h64 x (by
      have : x ∈ l.drop i := by rw [hd]; simp
      exact List.mem_of_mem_drop this)
    simp only [f30_1_l9]
    rw [ct (by omega), ct (by omega), ct (by omega), d2, leafP hF (by omega), ct (by omega), w64 (by omega) (by omega), show ((i : Int) + 1) = ((i + 1 : Nat) : Int) by omega,
      leavesP hF hl h64 r (i + 1) k _ d3 (by omega) (by simpa using hk) (by simp; omega)]
    simp

theorem leavesR {β : Type} {F : Nat} {n f c u : Int} {l : List ByteArray} {K0 K1 : List ByteArray → Option β} {z : Option β} (h0 : ∀ x, K0 x = z) (hF : 2000 ≤ F) (hl : l.length ≤ 10000) : ∀ (r : List ByteArray) (i k : Nat) (acc : List ByteArray), l.drop i = r → i ≤ l.length → r.length < k → acc.length = i →
    f38_1_l7 F l n f c u n f c u K0 K1 k (i : Int) acc = cond (r.any bad64) z (K1 (acc ++ r.map leafD))
  | [], i, k, acc, hd, hi, hk, ha => by
    obtain ⟨k, rfl⟩ : ∃ j, k = j + 1 := ⟨k - 1, by omega⟩
    have := nilB hd hi
    simp only [f38_1_l7]
    rw [cf (by omega)]; simp
  | x :: r, i, k, acc, hd, hi, hk, ha => by
    obtain ⟨k, rfl⟩ : ∃ j, k = j + 1 := ⟨k - 1, by omega⟩
    obtain ⟨d1, d2, d3⟩ := atB hd
    simp only [f38_1_l7, f91_1]
    rw [ct (by omega), ct (by omega), ct (by omega), d2]
    by_cases hx : x.size = 64
    · have e : ((x.size : Int) == 64) = true := by simp; omega
      simp only [e, Bool.not_true, cond_false, List.any_cons, bad64, Bool.false_or]
      rw [ct (by omega), ct (by omega), leafR hF (by omega), ct (by omega), w64 (by omega) (by omega), show ((i : Int) + 1) = ((i + 1 : Nat) : Int) by omega,
        leavesR h0 hF hl r (i + 1) k _ d3 (by omega) (by simpa using hk) (by simp; omega)]
      simp [bad64]
    · have e : ((x.size : Int) == 64) = false := by simp; omega
      simp only [e, Bool.not_false, cond_true, List.any_cons, bad64, Bool.true_or, h0]

/-- A tree of sectors, or why there is none. -/
def newT (n f c u : Int) (l : List ByteArray) : Sum Int (List ByteArray) :=
  if rt n f c u then
    if (l.length : Int) = n then
      if l.any bad64 then .inl 4 else .inr (bld n f c u (nodes n f c u - n).toNat (l.map leafD))
    else .inl 8
  else .inl 12

def fromT (n f c u : Int) (l : List ByteArray) : Sum Int (List ByteArray) :=
  if rt n f c u then
    if (l.length : Int) = nodes n f c u then
      if l.any bad32 then .inl 4 else .inr l
    else .inl 8
  else .inl 12

def sel {β : Type} (K0 : Int → Option β) (K1 : List ByteArray → Option β) : Sum Int (List ByteArray) → Option β
  | .inl e => K0 e
  | .inr L => K1 L

theorem ok64 {l : List ByteArray} (h : l.any bad64 = false) : ∀ x ∈ l, x.size = 64 := by
  intro x hx
  have := List.any_eq_false.1 h x hx
  simp [bad64] at this
  omega

theorem D32_leaves (l : List ByteArray) : D32 (l.map leafD) := by
  intro y hy
  obtain ⟨x, hx, rfl⟩ := List.mem_map.1 hy
  exact dig_size _

theorem bne_f {a b : Int} (h : a = b) : (a != b) = false := by simp [h]
theorem bne_t {a b : Int} (h : a ≠ b) : (a != b) = true := by simp [h]

theorem newP {β : Type} {n f c u : Int} {l : List ByteArray} {K0 : Int → Option β} {K1 : List ByteArray → Option β} : f30_1 20000 n f c u l K0 K1 = sel K0 K1 (newT n f c u l) := by
  simp only [f30_1, right46, newT]
  by_cases h : rt n f c u
  · simp only [h, decide_true, Bool.not_true, cond_false, if_true]
    have h1 := h.1
    by_cases hl : (l.length : Int) = n
    · rw [bne_f hl, if_pos hl, cond_false, contains64 (by omega) (by omega)]
      cases ha : l.any bad64 with
      | true => rfl
      | false =>
        have hn := nodes_ok n f c u
        have hn2 := n_le h
        simp only [cond_false, Bool.false_eq_true, if_false, sel]
        have := leavesP (F := 20000) (n := n) (f := f) (c := c) (u := u) (K := fun x16 => f30_1_l14 20000 l n f c u n f c u (fun x30 => K1 x30) 20000 n x16) (by omega) (by omega) (ok64 ha) l 0 20000 [] rfl (by omega) (by omega) rfl
        rw [show ((0 : Nat) : Int) = 0 from rfl] at this
        rw [this, List.nil_append]
        have h2 := newNodes (l := l) (K := fun x30 => K1 x30) h (nodes n f c u - n).toNat 20000 (l.map leafD) (by simp; omega) (by omega) (D32_leaves l)
        rw [show (((l.map leafD).length : Nat) : Int) = n by simp; omega] at h2
        exact h2
    · rw [bne_t hl, if_neg hl]; rfl
  · simp only [h, decide_false, Bool.not_false, cond_true, if_false, sel]

theorem cond_ff {α : Sort _} {a b : α} : cond (!true) a b = b := rfl
theorem cond_tt {α : Sort _} {a b : α} : cond (!false) a b = a := rfl
theorem cond_t {α : Sort _} {a b : α} : cond true a b = a := rfl

theorem newR {β : Type} {n f c u : Int} {l : List ByteArray} {K0 : Int → Option β} {K1 : List ByteArray → Option β} : f38_1 20000 n f c u l K0 K1 = sel K0 K1 (newT n f c u l) := by
  rw [f38_1, right47, newT]
  by_cases h : rt n f c u
  · rw [decide_eq_true h, if_pos h, cond_ff]
    have h1 := h.1
    by_cases hl : (l.length : Int) = n
    · have hn := nodes_ok n f c u
      have hn2 := n_le h
      rw [bne_f hl, if_pos hl, cond_false]
      have := leavesR (F := 20000) (n := n) (f := f) (c := c) (u := u) (K0 := fun x15 => K0 4) (z := K0 4) (K1 := fun x16 => f89_1 20000 n f c u (fun x17 => f38_1_l14 20000 x17 l n f c u n f c u (fun x31 => K1 x31) 20000 n x16)) (fun _ => rfl) (by omega) (by omega) l 0 20000 [] rfl (by omega) (by omega) rfl
      rw [show ((0 : Nat) : Int) = 0 from rfl] at this
      rw [this, List.nil_append]
      cases ha : l.any bad64 with
      | true => rw [cond_t, if_pos rfl, sel]
      | false =>
        rw [cond_false, nodes51]
        have h2 := newNodesR (l := l) (K := fun x30 => K1 x30) h (nodes n f c u - n).toNat 20000 (l.map leafD) (by simp; omega) (by omega) (D32_leaves l)
        rw [show (((l.map leafD).length : Nat) : Int) = n by simp; omega] at h2
        rw [h2, if_neg (by simp), sel]
    · rw [bne_t hl, if_neg hl, cond_t, sel]
  · rw [decide_eq_false h, if_neg h, cond_tt, sel]

theorem cloneP {β : Type} {F : Nat} {l : List ByteArray} {K : List ByteArray → Option β} (hl : l.length ≤ 100000) : f88_1 F l K = K l := by
  simp only [f88_1, List.nil_append]
  by_cases h : 0 < l.length
  · rw [ct h, ct (by omega)]
  · have : l = [] := List.length_eq_zero_iff.1 (by omega)
    subst this
    rw [cf h, ct (by simp), amb_self]

theorem fromL {β : Type} {F : Nat} {n f c u : Int} {l : List ByteArray} {K0 K1 : List ByteArray → Option β} {z : Option β} (h0 : ∀ x, K0 x = z) (hl : l.length ≤ 20000) : ∀ (r : List ByteArray) (i k : Nat) (acc : List ByteArray), l.drop i = r → i ≤ l.length → r.length < k → acc.length = i →
    f35_1_l7 F l n f c u K0 K1 k (i : Int) acc = cond (r.any bad32) z (K1 (acc ++ r))
  | [], i, k, acc, hd, hi, hk, ha => by
    obtain ⟨k, rfl⟩ : ∃ j, k = j + 1 := ⟨k - 1, by omega⟩
    have := nilB hd hi
    simp only [f35_1_l7]
    rw [cf (by omega)]; simp
  | x :: r, i, k, acc, hd, hi, hk, ha => by
    obtain ⟨k, rfl⟩ : ∃ j, k = j + 1 := ⟨k - 1, by omega⟩
    obtain ⟨d1, d2, d3⟩ := atB hd
    simp only [f35_1_l7, f21_1]
    rw [ct (by omega), ct (by omega), ct (by omega), d2]
    by_cases hx : x.size = 32
    · have e : ((x.size : Int) == 32) = true := by simp; omega
      simp only [e, Bool.not_true, cond_false, List.any_cons, bad32, Bool.false_or]
      rw [ct (by omega), ct (by omega), ct (by omega), w64 (by omega) (by omega), show ((i : Int) + 1) = ((i + 1 : Nat) : Int) by omega,
        fromL h0 hl r (i + 1) k _ d3 (by omega) (by simpa using hk) (by simp; omega)]
      simp [bad32]
    · have e : ((x.size : Int) == 32) = false := by simp; omega
      simp only [e, Bool.not_false, cond_true, List.any_cons, bad32, Bool.true_or, h0]

theorem fromP {β : Type} {n f c u : Int} {l : List ByteArray} {K0 : Int → Option β} {K1 : List ByteArray → Option β} : f34_1 20000 n f c u l K0 K1 = sel K0 K1 (fromT n f c u l) := by
  simp only [f34_1, right46, nodes50, fromT]
  by_cases h : rt n f c u
  · have hn := nodes_up h
    simp only [h, decide_true, Bool.not_true, cond_false, if_true]
    by_cases hl : (l.length : Int) = nodes n f c u
    · rw [bne_f hl, if_pos hl, cond_false, contains32 (by omega) (by omega), cloneP (by omega)]
      cases ha : l.any bad32 <;> rfl
    · rw [bne_t hl, if_neg hl]; rfl
  · simp only [h, decide_false, Bool.not_false, cond_true, if_false, sel]

theorem fromR {β : Type} {n f c u : Int} {l : List ByteArray} {K0 : Int → Option β} {K1 : List ByteArray → Option β} : f35_1 20000 n f c u l K0 K1 = sel K0 K1 (fromT n f c u l) := by
  simp only [f35_1, right47, nodes51, fromT]
  by_cases h : rt n f c u
  · have hn := nodes_up h
    simp only [h, decide_true, Bool.not_true, cond_false, if_true]
    by_cases hl : (l.length : Int) = nodes n f c u
    · rw [bne_f hl, if_pos hl, cond_false]
      have := fromL (F := 20000) (n := n) (f := f) (c := c) (u := u) (K0 := fun _ => K0 4) (z := K0 4) (K1 := fun x12 => K1 x12) (fun _ => rfl) (by omega) l 0 20000 [] rfl (by omega) (by omega) rfl
      rw [show ((0 : Nat) : Int) = 0 from rfl] at this
      rw [this, List.nil_append]
      cases ha : l.any bad32 <;> rfl
    · rw [bne_t hl, if_neg hl]; rfl
  · simp only [h, decide_false, Bool.not_false, cond_true, if_false, sel]

theorem newT_ok {n f c u : Int} {l L : List ByteArray} (h : newT n f c u l = .inr L) : rt n f c u ∧ D32 L ∧ (L.length : Int) = nodes n f c u := by
  unfold newT at h
  split at h
  · rename_i hr
    split at h
    · rename_i hl
      split at h
      · cases h
      · have hn := n_le hr
        simp only [Sum.inr.injEq] at h
        subst h
        obtain ⟨q1, q2⟩ := bld_ok n f c u (nodes n f c u - n).toNat (l.map leafD) (D32_leaves l)
        exact ⟨hr, q1, by rw [q2]; simp; omega⟩
    · cases h
  · cases h

theorem ok32 {l : List ByteArray} (h : ¬ l.any bad32 = true) : D32 l := by
  intro x hx
  have := List.any_eq_false.1 (by simpa using h) x hx
  simp [bad32] at this
  omega

theorem fromT_ok {n f c u : Int} {l L : List ByteArray} (h : fromT n f c u l = .inr L) : rt n f c u ∧ D32 L ∧ (L.length : Int) = nodes n f c u := by
  unfold fromT at h
  split at h
  · rename_i hr
    split at h
    · rename_i hl
      split at h
      · cases h
      · rename_i hb
        simp only [Sum.inr.injEq] at h
        subst h
        exact ⟨hr, ok32 hb, hl⟩
    · cases h
  · cases h

end Go.Proofs.Ytjlolgpbidfmeaa.X
end

section
/- Lists of numbers are compared; any seat. -/
namespace Go.Proofs.Ytjlolgpbidfmeaa.X
open Go Go.Proofs.Ytjlolgpbidfmeaa.Ev
set_option linter.unusedVariables false
theorem ints21l {β : Type} {F : Nat} {K0 K1 : Option β} {l : List Int} (hl : l.length ≤ 20000) : ∀ (r : List Int) (i k : Nat), l.drop i = r → i ≤ l.length → r.length < k → f37_1_l4 F l l K0 K1 k (i : Int) = K1
  | [], i, k, hd, hi, hk => by
    cases k with
    | zero => omega
    | succ k =>
      have : i = l.length := by
        have := congrArg List.length hd
        simp at this; omega
      subst this
      simp only [f37_1_l4]
      rw [cf (by omega)]
  | y :: r, i, k, hd, hi, hk => by
    cases k with
    | zero => omega
    | succ k =>
      obtain ⟨d1, d2, d3⟩ := at_drop hd
      have e : (y != y) = false := by simp
      simp only [f37_1_l4]
      rw [ct (by omega), ct (by omega), ct (by omega), ct (by omega), ct (by omega), d2, e, cond_false, w64 (by omega) (by omega), show ((i : Int) + 1) = ((i + 1 : Nat) : Int) by omega, ints21l hl r (i + 1) k d3 (by omega) (by simpa using hk)]

theorem ints21 {β : Type} {l : List Int} {K : Bool → Option β} (hl : l.length < 20000) : f37_1 20000 l l K = K true := by
  have := ints21l (F := 20000) (K0 := K false) (K1 := K true) (l := l) (by omega) l 0 20000 rfl (by omega) (by omega)
  simp only [f37_1, bne_self_eq_false, cond_false]
  exact this

end Go.Proofs.Ytjlolgpbidfmeaa.X
end

section
/- Trees: that one of the code is one of the document; what must come of fixed calls. -/
namespace Go.Proofs.Ytjlolgpbidfmeaa.X
open Go Go.Proofs.Ytjlolgpbidfmeaa.Ev
set_option linter.unusedVariables false

theorem textsL {β : Type} {F : Nat} {l : List ByteArray} {K0 K1 : Option β} (hl : l.length ≤ 10000) : ∀ (r : List ByteArray) (i k : Nat), l.drop i = r → i ≤ l.length → r.length < k →
    f41_1_l4 F l l K0 K1 k (i : Int) = K1
  | [], i, k, hd, hi, hk => by
    obtain ⟨k, rfl⟩ : ∃ j, k = j + 1 := ⟨k - 1, by omega⟩
    have := nilB hd hi
    rw [f41_1_l4, cf (by omega)]
  | x :: r, i, k, hd, hi, hk => by
    obtain ⟨k, rfl⟩ : ∃ j, k = j + 1 := ⟨k - 1, by omega⟩
    obtain ⟨d1, d2, d3⟩ := atB hd
    rw [f41_1_l4, ct (by omega), ct (by omega), ct (by omega), ct (by omega), ct (by omega), d2, beq_self_eq_true, cond_ff, w64 (by omega) (by omega), show ((i : Int) + 1) = ((i + 1 : Nat) : Int) by omega]
    exact textsL hl r (i + 1) k d3 (by omega) (by simpa using hk)

theorem texts {β : Type} {F : Nat} {l : List ByteArray} {K : Bool → Option β} (hl : l.length ≤ 10000) (hF : 10000 < F) : f41_1 F l l K = K true := by
  rw [f41_1, bne_f rfl, cond_false]
  exact textsL hl l 0 F rfl (by omega) (by omega)

def badN (n f c u : Int) (L : List ByteArray) : Nat → Nat → List Int → List Int
  | 0, _, acc => acc
  | m + 1, k, acc => badN n f c u L m (k + 1) (if !((L.getD k ByteArray.empty).toList == (abv n f c u L (k : Int)).toList) then acc ++ [(k : Int)] else acc)

theorem badN_len (n f c u : Int) (L : List ByteArray) : ∀ (m k : Nat) (acc : List Int), (badN n f c u L m k acc).length ≤ acc.length + m
  | 0, k, acc => by simp [badN]
  | m + 1, k, acc => by
    have := badN_len n f c u L m (k + 1) (if !((L.getD k ByteArray.empty).toList == (abv n f c u L (k : Int)).toList) then acc ++ [(k : Int)] else acc)
    simp only [badN]
    split at this <;> split <;> simp_all <;> omega

theorem badP {β : Type} {n f c u : Int} {L : List ByteArray} {K : List Int → Option β} (h : rt n f c u) (hd : D32 L) (hl : L.length ≤ 1000) : ∀ (m i k : Nat) (acc : List Int), i + m = L.length → m < k → acc.length ≤ i →
    f43_1_l5 20000 n f c u L K k (i : Int) acc = K (badN n f c u L m i acc)
  | 0, i, k, acc, hi, hk, ha => by
    obtain ⟨k, rfl⟩ : ∃ j, k = j + 1 := ⟨k - 1, by omega⟩
    rw [f43_1_l5, cf (by omega)]; rfl
  | m + 1, i, k, acc, hi, hk, ha => by
    obtain ⟨k, rfl⟩ : ∃ j, k = j + 1 := ⟨k - 1, by omega⟩
    rw [f43_1_l5, ct (by omega), ct (by omega), ct (by omega), aboveP h (by omega) (by omega) hd, show 0 + (i : Int).toNat = i by omega, w64 (by omega) (by omega), show ((i : Int) + 1) = ((i + 1 : Nat) : Int) by omega, ct (by omega), badN]
    cases hq : ((L.getD i ByteArray.empty).toList == (abv n f c u L (i : Int)).toList) with
    | true => exact badP h hd hl m (i + 1) k _ (by omega) (by omega) (by omega)
    | false => exact badP h hd hl m (i + 1) k _ (by omega) (by omega) (by simp; omega)

theorem badR {β : Type} {n f c u : Int} {L : List ByteArray} {K : List Int → Option β} (h : rt n f c u) (hd : D32 L) (hl : L.length ≤ 1000) : ∀ (m i k : Nat) (acc : List Int), i + m = L.length → m < k → acc.length ≤ i →
    f95_1_l3 20000 n f c u L K k (i : Int) acc = K (badN n f c u L m i acc)
  | 0, i, k, acc, hi, hk, ha => by
    obtain ⟨k, rfl⟩ : ∃ j, k = j + 1 := ⟨k - 1, by omega⟩
    rw [f95_1_l3, cf (by omega)]; rfl
  | m + 1, i, k, acc, hi, hk, ha => by
    obtain ⟨k, rfl⟩ : ∃ j, k = j + 1 := ⟨k - 1, by omega⟩
    rw [f95_1_l3, ct (by omega), ct (by omega), ct (by omega), aboveR h (by omega) (by omega) hd, show 0 + (i : Int).toNat = i by omega, w64 (by omega) (by omega), show ((i : Int) + 1) = ((i + 1 : Nat) : Int) by omega, ct (by omega), badN]
    cases hq : ((L.getD i ByteArray.empty).toList == (abv n f c u L (i : Int)).toList) with
    | true => exact badR h hd hl m (i + 1) k _ (by omega) (by omega) (by omega)
    | false => exact badR h hd hl m (i + 1) k _ (by omega) (by omega) (by simp; omega)

/-- A node's digest, or why there is none: the code's and the document's. -/
theorem digestPR {β : Type} (F : Nat) (node n f c u : Int) (L : List ByteArray) : ∃ (x : ByteArray) (e : Int), ∀ K : ByteArray → Int → Option β, f44_1 F node n f c u L K = K x e ∧ f93_1 F node n f c u L K = K x e := by
  by_cases h1 : node < 0
  · exact ⟨_, _, fun K => ⟨by rw [f44_1, ct h1], by rw [f93_1, ct h1]⟩⟩
  · by_cases h2 : node ≥ ((L.length : Nat) : Int)
    · exact ⟨_, _, fun K => ⟨by rw [f44_1, cf h1, ct h2], by rw [f93_1, cf h1, ct h2]⟩⟩
    · exact ⟨_, _, fun K => ⟨by rw [f44_1, cf h1, cf h2, ct (by omega), ct (by omega)], by rw [f93_1, cf h1, cf h2, ct (by omega), ct (by omega)]⟩⟩

theorem rootP {β : Type} {F : Nat} {n f c u : Int} {L : List ByteArray} {K : ByteArray → Option β} (h0 : 0 < L.length) (h1 : L.length ≤ 1000) : f46_1 F n f c u L K = K (L.getD (L.length - 1) ByteArray.empty) := by
  rw [f46_1, w64 (by omega) (by omega), ct (by omega), ct (by omega), show 0 + ((L.length : Int) - 1).toNat = L.length - 1 by omega]
theorem rootR {β : Type} {F : Nat} {n f c u : Int} {L : List ByteArray} {K : ByteArray → Option β} (h0 : 0 < L.length) (h1 : L.length ≤ 1000) : f94_1 F n f c u L K = K (L.getD (L.length - 1) ByteArray.empty) := by
  rw [f94_1, w64 (by omega) (by omega), ct (by omega), ct (by omega), show 0 + ((L.length : Int) - 1).toNat = L.length - 1 by omega]

theorem same39 {β : Type} {node n f c u : Int} {L : List ByteArray} {K : Bool → Option β} (h : rt n f c u) (hd : D32 L) (hl : (L.length : Int) = nodes n f c u) : f39_1 20000 node n f c u L n f c u L K = K true := by
  have hn := nodes_up h
  have hn1 := nodes_ok n f c u
  have hn2 := n_le h
  have h1 := h.1
  obtain ⟨x, e, hx⟩ := digestPR (β := β) 20000 node n f c u L
  have hb := badN_len n f c u L (L.length - n.toNat) n.toNat []
  have eP := fun (K : List Int → Option β) => badP (K := K) h hd (by omega) (L.length - n.toNat) n.toNat 20000 [] (by omega) (by omega) (by simp)
  have eR := fun (K : List Int → Option β) => badR (K := K) h hd (by omega) (L.length - n.toNat) n.toNat 20000 [] (by omega) (by omega) (by simp)
  rw [show ((n.toNat : Nat) : Int) = n by omega] at eP eR
  rw [f39_1, (hx _).1, (hx _).2, f45_1]
  simp only [beq_self_eq_true, Bool.and_self]
  rw [cond_t, rootP (by omega) (by omega), rootR (by omega) (by omega), beq_self_eq_true, cond_t, f42_1, cloneP (by omega), texts (by omega) (by omega), cond_t, cond_t, cond_t, f43_1, eP, f95_1, eR, ints21 (by simp at hb; omega)]

def fill (v : Int) : ByteArray := ofInts (List.replicate 64 v)

theorem fillL {β : Type} {F : Nat} {v : Int} {K : List Int → Option β} : ∀ (m i k : Nat), i + m = 64 → m < k → f76_1_l3 F v K k (i : Int) (List.replicate i v) = K (List.replicate 64 v)
  | 0, i, k, hi, hk => by
    obtain ⟨k, rfl⟩ : ∃ j, k = j + 1 := ⟨k - 1, by omega⟩
    rw [f76_1_l3, cf (by omega), show i = 64 by omega]
  | m + 1, i, k, hi, hk => by
    obtain ⟨k, rfl⟩ : ∃ j, k = j + 1 := ⟨k - 1, by omega⟩
    rw [f76_1_l3, ct (by omega), ct (by simp; omega), w64 (by omega) (by omega), show ((i : Int) + 1) = ((i + 1 : Nat) : Int) by omega, ← List.replicate_succ']
    exact fillL m (i + 1) k (by omega) (by omega)

theorem fill76 {β : Type} {F : Nat} {v : Int} {K : ByteArray → Option β} (hF : 1000 ≤ F) : f76_1 F v K = K (fill v) := by
  rw [f76_1]
  exact fillL (K := fun x => K (ofInts x)) 64 0 F (by omega) (by omega)

theorem fill_size (v : Int) : (fill v).size = 64 := by simp [fill, ofInts_size]

theorem zero75 {β : Type} {F : Nat} {K : ByteArray → Option β} (hF : 1000 ≤ F) : f75_1 F K = K (fill 0) := by
  rw [f75_1, fill76 hF]

theorem levels22 : levels 2 2 0 1 = [2, 1] := by kernel_rfl
theorem nodes22 : nodes 2 2 0 1 = 3 := by rw [nodes, levels22]; rfl
theorem rt22 : rt 2 2 0 1 := by unfold rt; omega

theorem new22 : newT 2 2 0 1 [fill 0, fill 1] = .inr [leafD (fill 0), leafD (fill 1), nodeD [leafD (fill 0), leafD (fill 1)]] := by
  have h1 : [fill 0, fill 1].any bad64 = false := by simp [bad64, fill_size]
  unfold newT
  rw [if_pos rt22, if_pos (by rfl), nodes22, h1]
  simp only [Bool.false_eq_true, if_false]
  show Sum.inr (bld 2 2 0 1 1 [leafD (fill 0), leafD (fill 1)]) = _
  unfold bld bld abv
  rw [levels22]
  rfl

theorem known28 {β : Type} {K : Bool → Option β} : f28_1 20000 K = K true := by
  have hs0 := fill_size 0
  have hs1 := fill_size 1
  rw [f28_1, zero75 (by omega), leafR (by omega) (by omega), fill76 (by omega), leafR (by omega) (by omega), zero75 (by omega), fill76 (by omega), newP, new22, sel,
    f47_1, cloneP (by simp), f31_1, bne_f rfl, cond_false, cond_false, root54, root, if_pos rt22, nodes22]
  rw [ct (by simp), ct (by simp), ct (by simp), ct (by simp), beq_self_eq_true, cond_ff]
  generalize hL : [leafD (fill 0), leafD (fill 1), nodeD [leafD (fill 0), leafD (fill 1)]] = L
  have hlen : L.length = 3 := by rw [← hL]; rfl
  obtain ⟨F, hF⟩ : ∃ F, (20000 : Nat) = F + 1 := ⟨19999, rfl⟩
  have step : ∀ (K0 : Int → List Int → List Int → Option β), f31_1_l1000000 20000 2 2 0 1 L 2 2 0 1 L K0 20000 1 [] [3 - 1] = K0 1 [] [3 - 1] := by
    intro K0
    rw [hF, f31_1_l1000000]
    rfl
  rw [step, rootP (by omega) (by omega), hlen, nodeR (by omega) (by simp) (by simp [leafD, dig_size]), f42_1, cloneP (by omega), hlen]
  rw [show L.getD (3 - 1) ByteArray.empty = nodeD [leafD (fill 0), leafD (fill 1)] by rw [← hL]; rfl, beq_self_eq_true]
  rfl

end Go.Proofs.Ytjlolgpbidfmeaa.X
end

section
/- The law: trees of sectors and of digests are the document's. -/
namespace Go.Proofs.Ytjlolgpbidfmeaa.X
open Go Go.Proofs.Ytjlolgpbidfmeaa.Ev
set_option linter.unusedVariables false

theorem newT_err {n f c u : Int} {l : List ByteArray} {e : Int} (h : newT n f c u l = .inl e) : e ≠ 0 := by
  unfold newT at h
  split at h
  · split at h
    · split at h
      · cases h; decide
      · cases h
    · cases h; decide
  · cases h; decide

theorem makes {β : Type} (n f c u node : Int) (l : List ByteArray) (K : Bool → Option β) : f7_1 20000 n f c u node l K = K true := by
  rw [f7_1, f26_1]
  by_cases h1 : n ≤ 30
  · rw [decide_eq_true h1, cond_ff]
    by_cases h2 : ((l.length : Nat) : Int) > 80
    · rw [ct h2, known28]
    · rw [cf h2, newP]
      cases hn : newT n f c u l with
      | inl e =>
        rw [sel, newR, hn, sel, fromP]
        cases hf : fromT n f c u l with
        | inl e' => rw [sel, fromR, hf, sel, bne_f rfl, cond_false, bne_f rfl, cond_false, known28]
        | inr L =>
          obtain ⟨q1, q2, q3⟩ := fromT_ok hf
          rw [sel, fromR, hf, sel, bne_f rfl, cond_false, same39 q1 q2 q3, cond_ff, known28]
      | inr L =>
        obtain ⟨q1, q2, q3⟩ := newT_ok hn
        rw [sel, newR, hn, sel, fromP]
        cases hf : fromT n f c u l with
        | inl e' => rw [sel, fromR, hf, sel, bne_f rfl, cond_false, same39 q1 q2 q3, cond_ff, known28]
        | inr L' =>
          obtain ⟨p1, p2, p3⟩ := fromT_ok hf
          rw [sel, fromR, hf, sel, same39 q1 q2 q3, cond_ff, same39 p1 p2 p3, cond_ff, known28]
  · rw [decide_eq_false h1, cond_tt, known28]

theorem law_true {β : Type} (n f c u : Int) (l : List ByteArray) (node : Int) {q1 q2 q3 q4 q5 q6 q7 : Prop} (_ : q1) (_ : q2) (_ : q3) (_ : q4) (_ : q5) (_ : q6) (_ : q7) (r : β) :
    ∃ F, f7_1 F n f c u node l (fun b => cond b (some r) none) = some r := ⟨20000, makes n f c u node l _⟩

end Go.Proofs.Ytjlolgpbidfmeaa.X
end
