/- Merged: GeoA, RollA, PureRollTells. -/
import Derived.Test.YtillbabmlfjegaaMRollTells8
import Derived.Test.YtillbabmlfjegaaMRollTells4
import Derived.Test.YtillbabmlfjegaaMRollTells6
import Derived.Test.YtillbabmlfjegaaMRollTells5
import Derived.KernelRfl
section
/- Trees' shapes: levels and numbers of nodes; any seat. -/
namespace Go.Proofs.Ytillbabmlfjegaa.X
open Go Go.Proofs.Ytillbabmlfjegaa.Ev
set_option linter.unusedSectionVars false
variable [FZ]
set_option linter.unusedVariables false
set_option linter.unusedSimpArgs false

def lv : Nat → Int → Int → List Int
  | 0, _, _ => []
  | k + 1, n, f => if n > 1 then ((n + f - 1) / f) :: lv k ((n + f - 1) / f) f else []

theorem step_eq {n f : Int} (hf : 2 ≤ f ∧ f ≤ 4) (h1 : 1 < n) (h2 : n ≤ 128) :
    IntKind.i64.wrap ((IntKind.i64.wrap ((IntKind.i64.wrap (n + f)) - 1)).tdiv f) = (n + f - 1) / f ∧ 1 ≤ (n + f - 1) / f ∧ (n + f - 1) / f < n := by
  rw [w64 (x := n + f) (by omega) (by omega), w64 (x := n + f - 1) (by omega) (by omega), Int.tdiv_eq_ediv_of_nonneg (by omega)]
  have : f = 2 ∨ f = 3 ∨ f = 4 := by omega
  rcases this with rfl | rfl | rfl
  · rw [w64 (by omega) (by omega)]; omega
  · rw [w64 (by omega) (by omega)]; omega
  · rw [w64 (by omega) (by omega)]; omega

theorem lev48 {β : Type} {F : Nat} {x f c u : Int} (hf : 2 ≤ f ∧ f ≤ 4) {K : List Int → Option β} : ∀ (k : Nat) (n : Int) (acc : List Int), 1 ≤ n → n ≤ 128 → n < k → (acc.length : Int) + n ≤ 2000 →
    f102_1_l5 F x f c u K k n acc = K (acc ++ lv k n f)
  | 0, n, acc, h1, h2, h3, h4 => by omega
  | k + 1, n, acc, h1, h2, h3, h4 => by
    simp only [f102_1_l5, lv]
    by_cases hn : n > 1
    · obtain ⟨e, g1, g2⟩ := step_eq hf hn h2
      rw [e]
      have h0 : ¬ f = 0 := by omega
      have hl : (acc.length + 1) * 8 ≤ 70368744177664 := by omega
      simp only [hn, h0, hl, decide_true, decide_false, cond_true, cond_false, if_true]
      rw [lev48 hf k _ _ g1 (by omega) (by omega) (by simp; omega)]
      simp
    · simp [hn]

theorem lev49 {β : Type} {F : Nat} {x f c u : Int} (hf : 2 ≤ f ∧ f ≤ 4) {K : List Int → Option β} : ∀ (k : Nat) (n : Int) (acc : List Int), 1 ≤ n → n ≤ 128 → n < k → (acc.length : Int) + n ≤ 2000 →
    f66_1_l5 F x f c u K k n acc = K (acc ++ lv k n f)
  | 0, n, acc, h1, h2, h3, h4 => by omega
  | k + 1, n, acc, h1, h2, h3, h4 => by
    simp only [f66_1_l5, lv]
    by_cases hn : n > 1
    · obtain ⟨e, g1, g2⟩ := step_eq hf hn h2
      rw [e]
      have h0 : ¬ f = 0 := by omega
      have hl : (acc.length + 1) * 8 ≤ 70368744177664 := by omega
      simp only [hn, h0, hl, decide_true, decide_false, cond_true, cond_false, if_true]
      rw [lev49 hf k _ _ g1 (by omega) (by omega) (by simp; omega)]
      simp
    · simp [hn]

theorem lv_ok {f : Int} (hf : 2 ≤ f ∧ f ≤ 4) : ∀ (k : Nat) (n : Int), 1 ≤ n → n ≤ 128 → ((lv k n f).length : Int) < n ∧ ∀ y ∈ lv k n f, 1 ≤ y ∧ y ≤ 128
  | 0, n, h1, h2 => by simp [lv]; omega
  | k + 1, n, h1, h2 => by
    simp only [lv]
    by_cases hn : n > 1
    · obtain ⟨e, g1, g2⟩ := step_eq hf hn h2
      obtain ⟨q1, q2⟩ := lv_ok hf k _ g1 (by omega)
      rw [if_pos hn]
      refine ⟨by simp; omega, fun y hy => ?_⟩
      rcases List.mem_cons.1 hy with rfl | hy
      · omega
      · exact q2 y hy
    · rw [if_neg hn]; simp; omega

/-- The geometry can be. -/
def rt (n f c u : Int) : Prop := (1 ≤ n ∧ n ≤ 128) ∧ (2 ≤ f ∧ f ≤ 4) ∧ (0 ≤ c ∧ c ≤ 64) ∧ (1 ≤ u ∧ u ≤ 320)
instance (n f c u : Int) : Decidable (rt n f c u) := by unfold rt; infer_instance

theorem cnd {β : Type} {p q : Prop} [Decidable p] [Decidable q] {K : Bool → Option β} : cond (decide p) (K (decide q)) (K false) = K (decide (p ∧ q)) := by
  by_cases h : p <;> simp [h]

theorem within87 {β : Type} {F : Nat} {a b c : Int} {K : Bool → Option β} : f95_1 F a b c K = K (decide (a ≥ b ∧ a ≤ c)) := by
  simp only [f95_1, cnd]

theorem right46 {β : Type} {F : Nat} {n f c u : Int} {K : Bool → Option β} : f52_1 F n f c u K = K (decide (rt n f c u)) := by
  simp only [f52_1, within87, cnd]
  congr 1

theorem right47 {β : Type} {F : Nat} {n f c u : Int} {K : Bool → Option β} : f7_1 F n f c u K = K (decide (rt n f c u)) := by
  simp only [f7_1, cnd]
  congr 1
  exact decide_eq_decide.2 (by unfold rt; omega)

def levels (n f c u : Int) : List Int := if rt n f c u then n :: lv 20000 n f else []

theorem levels48 {β : Type} {n f c u : Int} {K : List Int → Option β} : f102_1 20000 n f c u K = K (levels n f c u) := by
  simp only [f102_1, right46, levels]
  by_cases h : rt n f c u
  · simp only [h, decide_true, Bool.not_true, cond_false, if_true]
    rw [lev48 h.2.1 20000 n [n] h.1.1 h.1.2 (by have := h.1.2; omega) (by have := h.1.2; simp; omega)]
    rfl
  · simp [h]

theorem levels49 {β : Type} {n f c u : Int} {K : List Int → Option β} : f66_1 20000 n f c u K = K (levels n f c u) := by
  simp only [f66_1, right47, levels]
  by_cases h : rt n f c u
  · simp only [h, decide_true, Bool.not_true, cond_false, if_true]
    rw [lev49 h.2.1 20000 n [n] h.1.1 h.1.2 (by have := h.1.2; omega) (by have := h.1.2; simp; omega)]
    rfl
  · simp [h]

theorem levels_ok (n f c u : Int) : (levels n f c u).length ≤ 128 ∧ ∀ y ∈ levels n f c u, 1 ≤ y ∧ y ≤ 128 := by
  unfold levels
  split
  · rename_i h
    obtain ⟨q1, q2⟩ := lv_ok h.2.1 20000 n h.1.1 h.1.2
    have := h.1
    refine ⟨by simp; omega, fun y hy => ?_⟩
    rcases List.mem_cons.1 hy with rfl | hy
    · omega
    · exact q2 y hy
  · simp

def sumI : List Int → Int
  | [] => 0
  | x :: r => x + sumI r

theorem sumI_ok : ∀ (l : List Int), (∀ y ∈ l, 1 ≤ y ∧ y ≤ 128) → (l.length : Int) ≤ sumI l ∧ sumI l ≤ 128 * l.length
  | [], _ => by simp [sumI]
  | x :: r, h => by
    obtain ⟨q1, q2⟩ := sumI_ok r fun y hy => h y (by simp [hy])
    have := h x (by simp)
    simp only [sumI, List.length_cons]
    omega

theorem sum50 {β : Type} {F : Nat} {K : Int → Option β} (l : List Int) (hl : l.length ≤ 128) (hy : ∀ y ∈ l, 1 ≤ y ∧ y ≤ 128) : ∀ (r : List Int) (i : Nat) (k : Nat) (s : Int), l.drop i = r → i ≤ l.length → r.length < k → 0 ≤ s → s ≤ 128 * i →
    f72_1_l3 F ((l.length : Nat) : Int) l K k s (i : Int) = K (s + sumI r)
  | [], i, k, s, hd, hi, hk, h0, h1 => by
    cases k with
    | zero => omega
    | succ k =>
      have : i = l.length := by
        have := congrArg List.length hd
        simp at this; omega
      subst this
      simp [f72_1_l3, sumI]
  | x :: r, i, k, s, hd, hi, hk, h0, h1 => by
    cases k with
    | zero => omega
    | succ k =>
      have hlen : l.length - i = r.length + 1 := by
        have := congrArg List.length hd
        simpa using this
      have hlt : i < l.length := by omega
      have hx : l[i]? = some x := by
        have := congrArg (·[0]?) hd
        simpa using this
      have hm := hy x (List.mem_of_getElem? hx)
      have hdr : l.drop (i + 1) = r := by
        rw [← List.drop_drop, hd]; rfl
      simp only [f72_1_l3]
      have e1 : decide ((i : Int) < ((l.length : Nat) : Int)) = true := by simp; omega
      have e2 : decide ((0 : Int) ≤ (i : Int) ∧ (i : Int) < ((l.length : Nat) : Int)) = true := by simp; omega
      have e3 : decide (0 + (i : Int).toNat < l.length) = true := by simp; omega
      have e4 : l.getD (0 + (i : Int).toNat) 0 = x := by
        rw [List.getD_eq_getElem?_getD]; simp [hx]
      rw [e1, e2, e3, e4, cond_true, cond_true, cond_true, w64 (by omega) (by omega), w64 (by omega) (by omega)]
      have := sum50 (F := F) (K := K) l hl hy r (i + 1) k (s + x) hdr (by omega) (by simpa using hk) (by omega) (by omega)
      rw [show ((i : Int) + 1) = ((i + 1 : Nat) : Int) by omega, this]
      congr 1
      simp only [sumI]; omega

theorem sum51 {β : Type} {F : Nat} {K : Int → Option β} (l : List Int) (hl : l.length ≤ 128) (hy : ∀ y ∈ l, 1 ≤ y ∧ y ≤ 128) : ∀ (r : List Int) (i : Nat) (k : Nat) (s : Int), l.drop i = r → i ≤ l.length → r.length < k → 0 ≤ s → s ≤ 128 * i →
    f14_1_l4 F l K k s (i : Int) = K (s + sumI r)
  | [], i, k, s, hd, hi, hk, h0, h1 => by
    cases k with
    | zero => omega
    | succ k =>
      have : i = l.length := by
        have := congrArg List.length hd
        simp at this; omega
      subst this
      simp [f14_1_l4, sumI]
  | x :: r, i, k, s, hd, hi, hk, h0, h1 => by
    cases k with
    | zero => omega
    | succ k =>
      have hlen : l.length - i = r.length + 1 := by
        have := congrArg List.length hd
        simpa using this
      have hlt : i < l.length := by omega
      have hx : l[i]? = some x := by
        have := congrArg (·[0]?) hd
        simpa using this
      have hm := hy x (List.mem_of_getElem? hx)
      have hdr : l.drop (i + 1) = r := by
        rw [← List.drop_drop, hd]; rfl
      simp only [f14_1_l4]
      have e1 : decide ((i : Int) < ((l.length : Nat) : Int)) = true := by simp; omega
      have e2 : decide ((0 : Int) ≤ (i : Int) ∧ (i : Int) < ((l.length : Nat) : Int)) = true := by simp; omega
      have e3 : decide (0 + (i : Int).toNat < l.length) = true := by simp; omega
      have e4 : l.getD (0 + (i : Int).toNat) 0 = x := by
        rw [List.getD_eq_getElem?_getD]; simp [hx]
      rw [e1, e2, e3, e4, cond_true, cond_true, cond_true, w64 (by omega) (by omega), w64 (by omega) (by omega)]
      have := sum51 (F := F) (K := K) l hl hy r (i + 1) k (s + x) hdr (by omega) (by simpa using hk) (by omega) (by omega)
      rw [show ((i : Int) + 1) = ((i + 1 : Nat) : Int) by omega, this]
      congr 1
      simp only [sumI]; omega

def nodes (n f c u : Int) : Int := sumI (levels n f c u)

theorem nodes_ok (n f c u : Int) : 0 ≤ nodes n f c u ∧ nodes n f c u ≤ 16384 ∧ (rt n f c u → 1 ≤ nodes n f c u) ∧ (¬ rt n f c u → nodes n f c u = 0) := by
  obtain ⟨h1, h2⟩ := levels_ok n f c u
  obtain ⟨h3, h4⟩ := sumI_ok _ h2
  unfold nodes
  refine ⟨by omega, by omega, fun h => ?_, fun h => by simp [levels, h, sumI]⟩
  have : 1 ≤ (levels n f c u).length := by simp [levels, h]
  omega

theorem nodes50 {β : Type} {n f c u : Int} {K : Int → Option β} : f72_1 20000 n f c u K = K (nodes n f c u) := by
  obtain ⟨h1, h2⟩ := levels_ok n f c u
  simp only [f72_1, levels48]
  have := sum50 (F := 20000) (K := K) (levels n f c u) h1 h2 _ 0 20000 0 rfl (by omega) (by simp; omega) (by omega) (by omega)
  simp only [List.drop_zero, Int.zero_add] at this
  exact this

theorem nodes51 {β : Type} {n f c u : Int} {K : Int → Option β} : f14_1 20000 n f c u K = K (nodes n f c u) := by
  obtain ⟨h1, h2⟩ := levels_ok n f c u
  simp only [f14_1, levels49]
  have := sum51 (F := 20000) (K := K) (levels n f c u) h1 h2 _ 0 20000 0 rfl (by omega) (by simp; omega) (by omega) (by omega)
  simp only [List.drop_zero, Int.zero_add] at this
  exact this


end Go.Proofs.Ytillbabmlfjegaa.X
end

section
/- Sectors as they were: what is found, shown, made; the code's and the document's, in one form. -/
namespace Go.Proofs.Ytillbabmlfjegaa.X
open Go Go.Proofs.Ytillbabmlfjegaa.Ev
set_option linter.unusedSectionVars false
variable [FZ]
set_option linter.unusedVariables false
set_option linter.unusedSimpArgs false

abbrev Ent := Int × (Int × (Int × ByteArray))
abbrev dE : Ent := (0, (0, (0, ByteArray.empty)))

/-! ### What is found -/

def fnd (x : Int) : List Ent → ByteArray × Bool
  | [] => (ByteArray.empty, false)
  | e :: r => if e.2.2.1 = x then (e.2.2.2, true) else fnd x r

theorem findPl {β : Type} {F : Nat} {x : Int} {l : List Ent} {K : ByteArray → Bool → Option β} (hl : l.length ≤ 300) : ∀ (r : List Ent) (i k : Nat), l.drop i = r → i ≤ l.length → r.length < k →
    f85_590_l2 F ((l.length : Nat) : Int) l x (fun x1 => cond (decide (x1 < 0)) (K ByteArray.empty false) (cond (decide ((0 : Int) ≤ x1 ∧ x1 < ((l.length : Nat) : Int))) (cond (decide (0 + x1.toNat < l.length)) (K ((((l.getD (0 + x1.toNat) (0, (0, (0, ByteArray.empty)))).2).2).2) true) none) none)) (K ByteArray.empty false) k (i : Int) = K (fnd x r).1 (fnd x r).2
  | [], i, 0, _, _, hk => by simp at hk
  | _ :: _, i, 0, _, _, hk => by simp at hk
  | [], i, k + 1, hd, hi, _ => by
    have := len_of_drop_nil hd hi
    rw [f85_590_l2, cf (by omega)]; rfl
  | p :: r, i, k + 1, hd, hi, hk => by
    obtain ⟨h1, h2, h3⟩ := getD_of_drop (d := dE) hd
    have ih := findPl (F := F) (x := x) (K := K) hl r (i + 1) k h3 (by omega) (by simp at hk; omega)
    push_cast at ih
    rw [f85_590_l2, ct (by omega), ct (by omega), ct (by omega), f86_345, h2, w64 (by omega) (by omega), fnd]
    by_cases hx : p.2.2.1 = x
    · rw [show (p.2.2.1 == x) = true by simp [hx], cond_true, cf (by omega), ct (by omega), ct (by omega), if_pos hx]
    · rw [show (p.2.2.1 == x) = false by simp [hx], cond_false, if_neg hx]; exact ih

theorem findP {β : Type} {F : Nat} (hF : 400 ≤ F) {x : Int} {l : List Ent} {K : ByteArray → Bool → Option β} (hl : l.length ≤ 300) : f37_1 F x l K = K (fnd x l).1 (fnd x l).2 := by
  rw [f37_1, f85_590]
  have := findPl (F := F) (x := x) (K := K) hl l 0 F rfl (by omega) (by omega)
  exact this

theorem findRl {β : Type} {F : Nat} {x : Int} {l : List Ent} {K : ByteArray → Bool → Option β} (hl : l.length ≤ 300) : ∀ (r : List Ent) (i k : Nat), l.drop i = r → i ≤ l.length → r.length < k →
    f38_1_l2 F x l (fun x4 => K x4 true) (K ByteArray.empty false) k (i : Int) = K (fnd x r).1 (fnd x r).2
  | [], i, 0, _, _, hk => by simp at hk
  | _ :: _, i, 0, _, _, hk => by simp at hk
  | [], i, k + 1, hd, hi, _ => by
    have := len_of_drop_nil hd hi
    rw [f38_1_l2, cf (by omega)]; rfl
  | p :: r, i, k + 1, hd, hi, hk => by
    obtain ⟨h1, h2, h3⟩ := getD_of_drop (d := dE) hd
    have ih := findRl (F := F) (x := x) (K := K) hl r (i + 1) k h3 (by omega) (by simp at hk; omega)
    push_cast at ih
    rw [f38_1_l2, ct (by omega), ct (by omega), ct (by omega), h2, w64 (by omega) (by omega), ct (by omega), ct (by omega), fnd]
    by_cases hx : p.2.2.1 = x
    · rw [show (p.2.2.1 == x) = true by simp [hx], cond_true, if_pos hx]
    · rw [show (p.2.2.1 == x) = false by simp [hx], cond_false, if_neg hx]; exact ih

theorem findR {β : Type} {F : Nat} (hF : 400 ≤ F) {x : Int} {l : List Ent} {K : ByteArray → Bool → Option β} (hl : l.length ≤ 300) : f38_1 F x l K = K (fnd x l).1 (fnd x l).2 := by
  rw [f38_1]
  exact findRl hl l 0 F rfl (by omega) (by omega)

section
variable {n k : Nat} {a c : Int} {b : Bool} {l : List ByteArray} {w : WL} {es : List Ent}

/-! ### What is shown -/

def vw (x : Int) (b : Bool) (l : List ByteArray) (w : WL) (es : List Ent) : ByteArray × Int :=
  if (rd x b l w).2 ≠ 0 then (ByteArray.empty, (rd x b l w).2) else (if (fnd x es).2 then (fnd x es).1 else (rd x b l w).1, 0)

theorem viewP {β : Type} {F : Nat} (hF : 400 ≤ F) {x : Int} {K : ByteArray → Int → Option β} (h : DS n k a c l w) (hl : es.length ≤ 300) : f39_1 F x a b c l w es K = K (vw x b l w es).1 (vw x b l w es).2 := by
  rw [f39_1, readP hF h, vw]
  by_cases h1 : (rd x b l w).2 = 0
  · rw [h1, show ((0 : Int) != 0) = false from rfl, cond_false, findP hF hl, if_neg (by simp)]
    cases (fnd x es).2 <;> rfl
  · rw [show ((rd x b l w).2 != 0) = true by simp [h1], cond_true, if_pos h1]

theorem viewR {β : Type} {F : Nat} (hF : 400 ≤ F) {x : Int} {K : ByteArray → Int → Option β} (h : DS n k a c l w) (hl : es.length ≤ 300) : f40_1 F x a b c l w es K = K (vw x b l w es).1 (vw x b l w es).2 := by
  rw [f40_1, readR hF h, vw]
  by_cases h1 : (rd x b l w).2 = 0
  · rw [h1, show ((0 : Int) != 0) = false from rfl, cond_false, findR hF hl, if_neg (by simp)]
    cases (fnd x es).2 <;> rfl
  · rw [show ((rd x b l w).2 != 0) = true by simp [h1], cond_true, if_pos h1]

/-! ### What is made -/

noncomputable def Z : ByteArray := ofInts (List.replicate 64 0)
theorem zeroP {β : Type} {K : ByteArray → Option β} : f81_1 20000 K = K Z := by kernel_rfl
theorem zeroR {β : Type} {K : ByteArray → Option β} : f49_1 20000 K = K Z := by kernel_rfl

/-- Writes, one after another, till one is refused. -/
def bS : List Ent → Int → Bool → Int → List ByteArray → WL → Int × Int × Bool × Int × WL
  | [], a, b, c, l, w => (0, a, b, c, w)
  | e :: r, a, b, c, l, w => if (wS e.2.2.1 e.2.2.2 a b c l w).1 ≠ 0 then wS e.2.2.1 e.2.2.2 a b c l w else
    bS r (wS e.2.2.1 e.2.2.2 a b c l w).2.1 (wS e.2.2.1 e.2.2.2 a b c l w).2.2.1 (wS e.2.2.1 e.2.2.2 a b c l w).2.2.2.1 l (wS e.2.2.1 e.2.2.2 a b c l w).2.2.2.2

theorem bS_ok : ∀ (es : List Ent) {k : Nat} {a c : Int} {b : Bool} {w : WL}, DS n k a c l w → k + es.length ≤ 290 → DS n (k + es.length) (bS es a b c l w).2.1 (bS es a b c l w).2.2.2.1 l (bS es a b c l w).2.2.2.2
  | [], k, a, c, b, w, h, _ => h
  | e :: r, k, a, c, b, w, h, hk => by
    simp at hk
    have h1 := wS_ok (x := e.2.2.1) (t := e.2.2.2) (b := b) h (by omega)
    rw [bS]
    split
    · exact ⟨h1.n40, by simp; omega, h1.len, by have := h1.wl; simp; omega, h1.wb, h1.ar, by have := h1.cr; simp; omega⟩
    · have := bS_ok r (b := (wS e.2.2.1 e.2.2.2 a b c l w).2.2.1) h1 (by omega)
      rw [List.length_cons, show k + (r.length + 1) = k + 1 + r.length by omega]
      exact this

theorem take_rev {α : Type} {l : List α} {i : Nat} (h : i < l.length) : (l.take (i + 1)).reverse = l[i] :: (l.take i).reverse := by
  rw [List.take_succ_eq_append_getElem h, List.reverse_append]; rfl

theorem backPl {β : Type} {F : Nat} {y1 y2 y3 y4 y5 : Int} (he : es.length ≤ 100) {K0 : Int → Bool → Int → Int → WL → Int → Int → Int → ByteArray → Option β} {K1 : Int → Bool → Int → WL → Option β} {KE : Int → Int → Bool → Int → WL → Option β} (h0 : ∀ e a b c w z1 z2 z3 z4, K0 a b c e w z1 z2 z3 z4 = KE e a b c w) :
    ∀ (i f : Nat) {k : Nat} {a c : Int} {b : Bool} {w : WL}, DS n k a c l w → k + i ≤ 290 → i ≤ es.length → i < f →
    f43_1_r2000004_l1 F l es y1 y2 y3 y4 y5 K0 K1 f ((i : Int) - 1) a b c w = if (bS (es.take i).reverse a b c l w).1 ≠ 0 then KE (bS (es.take i).reverse a b c l w).1 (bS (es.take i).reverse a b c l w).2.1 (bS (es.take i).reverse a b c l w).2.2.1 (bS (es.take i).reverse a b c l w).2.2.2.1 (bS (es.take i).reverse a b c l w).2.2.2.2
      else K1 (bS (es.take i).reverse a b c l w).2.1 (bS (es.take i).reverse a b c l w).2.2.1 (bS (es.take i).reverse a b c l w).2.2.2.1 (bS (es.take i).reverse a b c l w).2.2.2.2
  | _, 0, _, _, _, _, _, _, _, _, h => by omega
  | 0, f + 1, k, a, c, b, w, h, _, _, _ => by
    rw [f43_1_r2000004_l1, cf (by omega)]
    simp [bS]
  | i + 1, f + 1, k, a, c, b, w, h, hk, hi, hf => by
    have h1 : i < es.length := by omega
    have e1 : (((i + 1 : Nat) : Int) - 1) = (i : Int) := by omega
    have hg : es.getD (0 + (i : Int).toNat) ((0, (0, (0, ByteArray.empty))) : Ent) = es[i] := by simp [h1]
    rw [e1, f43_1_r2000004_l1, ct (by omega), ct (by omega), ct (by omega), w64 (by omega) (by omega), hg, take_rev h1, bS, writeP h, wrB_eq]
    by_cases q : (wS es[i].2.2.1 es[i].2.2.2 a b c l w).1 = 0
    · have hs := wS_ok (x := es[i].2.2.1) (t := es[i].2.2.2) (b := b) h (by omega)
      rw [if_pos q, backPl he h0 i f hs (by omega) (by omega) (by omega), if_neg (show ¬ (wS es[i].2.2.1 es[i].2.2.2 a b c l w).1 ≠ 0 from fun hh => hh q)]
    · rw [if_neg q, show ((wS es[i].2.2.1 es[i].2.2.2 a b c l w).1 != 0) = true by simp [q], cond_true, h0, if_pos (show (wS es[i].2.2.1 es[i].2.2.2 a b c l w).1 ≠ 0 from q), if_pos (show (wS es[i].2.2.1 es[i].2.2.2 a b c l w).1 ≠ 0 from q), wS_same q]

theorem backRl {β : Type} {F : Nat} {y1 y2 y3 y4 : Int} (he : es.length ≤ 100) {K0 : Int → Int → Bool → Int → WL → Option β} {K1 : Int → Bool → Int → WL → Option β} :
    ∀ (i f : Nat) {k : Nat} {a c : Int} {b : Bool} {w : WL}, DS n k a c l w → k + i ≤ 290 → i ≤ es.length → i < f →
    f44_1_l4 F l es y1 y2 y3 y4 K0 K1 f ((i : Int) - 1) a b c w = if (bS (es.take i).reverse a b c l w).1 ≠ 0 then K0 (bS (es.take i).reverse a b c l w).1 (bS (es.take i).reverse a b c l w).2.1 (bS (es.take i).reverse a b c l w).2.2.1 (bS (es.take i).reverse a b c l w).2.2.2.1 (bS (es.take i).reverse a b c l w).2.2.2.2
      else K1 (bS (es.take i).reverse a b c l w).2.1 (bS (es.take i).reverse a b c l w).2.2.1 (bS (es.take i).reverse a b c l w).2.2.2.1 (bS (es.take i).reverse a b c l w).2.2.2.2
  | _, 0, _, _, _, _, _, _, _, _, h => by omega
  | 0, f + 1, k, a, c, b, w, h, _, _, _ => by
    rw [f44_1_l4, cf (by omega)]
    simp [bS]
  | i + 1, f + 1, k, a, c, b, w, h, hk, hi, hf => by
    have h1 : i < es.length := by omega
    have e1 : (((i + 1 : Nat) : Int) - 1) = (i : Int) := by omega
    have hg : es.getD (0 + (i : Int).toNat) ((0, (0, (0, ByteArray.empty))) : Ent) = es[i] := by simp [h1]
    rw [e1, f44_1_l4, ct (by omega), ct (by omega), ct (by omega), ct (by omega), ct (by omega), w64 (by omega) (by omega), hg, take_rev h1, bS, writeR h, wrB_eq]
    by_cases q : (wS es[i].2.2.1 es[i].2.2.2 a b c l w).1 = 0
    · have hs := wS_ok (x := es[i].2.2.1) (t := es[i].2.2.2) (b := b) h (by omega)
      rw [if_pos q, backRl he i f hs (by omega) (by omega) (by omega), if_neg (show ¬ (wS es[i].2.2.1 es[i].2.2.2 a b c l w).1 ≠ 0 from fun hh => hh q)]
    · rw [if_neg q, show ((wS es[i].2.2.1 es[i].2.2.2 a b c l w).1 != 0) = true by simp [q], cond_true, if_pos (show (wS es[i].2.2.1 es[i].2.2.2 a b c l w).1 ≠ 0 from q), if_pos (show (wS es[i].2.2.1 es[i].2.2.2 a b c l w).1 ≠ 0 from q), wS_same q]

abbrev St := Int × Int × Bool × Int × List ByteArray × WL

/-- A write, then a flush. -/
def layS (x : Int) (t : ByteArray) (a : Int) (b : Bool) (c : Int) (l : List ByteArray) (w : WL) : St :=
  if (wS x t a b c l w).1 ≠ 0 then ((wS x t a b c l w).1, (wS x t a b c l w).2.1, (wS x t a b c l w).2.2.1, (wS x t a b c l w).2.2.2.1, l, w)
  else fS (wS x t a b c l w).2.1 (wS x t a b c l w).2.2.1 (wS x t a b c l w).2.2.2.1 l (wS x t a b c l w).2.2.2.2

def app {β : Type} (K : Int → Int → Bool → Int → List ByteArray → WL → Option β) (s : St) : Option β := K s.1 s.2.1 s.2.2.1 s.2.2.2.1 s.2.2.2.2.1 s.2.2.2.2.2

theorem fl_app {β : Type} {a c : Int} {b : Bool} {l : List ByteArray} {w : WL} {K : Int → Int → Bool → Int → List ByteArray → WL → Option β} :
    (if (fS a b c l w).1 = 0 then K 0 (fS a b c l w).2.1 (fS a b c l w).2.2.1 (fS a b c l w).2.2.2.1 (fS a b c l w).2.2.2.2.1 (fS a b c l w).2.2.2.2.2 else K 5 (fS a b c l w).2.1 (fS a b c l w).2.2.1 (fS a b c l w).2.2.2.1 l w) = app K (fS a b c l w) := by
  by_cases q : (fS a b c l w).1 = 0
  · rw [if_pos q, app, q]
  · obtain ⟨h1, h2, h3⟩ := fS_same q
    rw [if_neg q, app, h1, h2, h3]

theorem layP {β : Type} {F : Nat} (hF : 400 ≤ F) {x : Int} {t : ByteArray} (h : DS n k a c l w) (hk : k < 299) {K : Int → Int → Bool → Int → List ByteArray → WL → Option β} {K1 : Int → Bool → Int → List ByteArray → WL → Option β} :
    f106_1 F x t a b c l w (fun x5 x6 x7 x8 => K x5 x6 x7 x8 l w) K1 (fun x14 x15 x16 x17 x18 x19 => K x14 x15 x16 x17 x18 x19) = app K (layS x t a b c l w) := by
  rw [f106_1, writeP h, wrB_eq, layS]
  by_cases q : (wS x t a b c l w).1 = 0
  · have hs := wS_ok (x := x) (t := t) (b := b) h (by omega)
    rw [if_pos q, if_neg (show ¬ (wS x t a b c l w).1 ≠ 0 from fun hh => hh q), flushP hF hs, flB_eq]
    exact fl_app
  · rw [if_neg q, show ((wS x t a b c l w).1 != 0) = true by simp [q], cond_true, if_pos (show (wS x t a b c l w).1 ≠ 0 from q)]
    rfl
end

section
variable {m k : Nat} {n f c u : Int} {a d : Int} {b : Bool} {l : List ByteArray} {w : WL} {es : List Ent}

theorem area0 {β : Type} (h : rt n f c u) {K : Int → Int → Option β} : ∃ y, f105_1 20000 n f c u 0 K = K (6 + n + nodes n f c u) y := by
  have hn := nodes_ok n f c u
  obtain ⟨h1, h2, h3, h4⟩ := h
  have hr : rt n f c u := ⟨h1, h2, h3, h4⟩
  have one : ∀ (x : Int) (K : Int → Option β), 0 ≤ x ∧ x ≤ 1 → f121_1 20000 n f c u 1 x K = K (6 + n + nodes n f c u + x) := by
    intro x K hx
    rw [f121_1, f132_1, show ((1 : Int) == 0) = false from rfl, cond_false, show ((1 : Int) == 1) = true from rfl, cond_true, right46, decide_eq_true hr, Bool.not_true, cond_false, within87,
      w64 (x := 2 * u) (by omega) (by omega), w64 (x := 2 * u - 1) (by omega) (by omega), decide_eq_true (by omega), Bool.not_true, cond_false, nodes50, w64 (x := 6 + n) (by omega) (by omega), w64 (x := 6 + n + nodes n f c u) (by omega) (by omega), w64 (by omega) (by omega)]
  refine ⟨6 + n + nodes n f c u + 1, ?_⟩
  rw [f105_1, show IntKind.i64.wrap (2 * 0) = 0 from rfl, one 0 _ (by omega), show IntKind.i64.wrap (0 + 1) = 1 from rfl, one 1 _ (by omega), Int.add_zero]

theorem area0R {β : Type} (h : rt n f c u) {K : Int → Option β} : f114_1 20000 n f c u 1 0 K = K (6 + n + nodes n f c u) := by
  have hn := nodes_ok n f c u
  obtain ⟨h1, h2, h3, h4⟩ := h
  have hr : rt n f c u := ⟨h1, h2, h3, h4⟩
  rw [f114_1, right47, decide_eq_true hr, Bool.not_true, cond_false, cf (by omega), f103_1, show ((1 : Int) == 0) = false from rfl, cond_false, show ((1 : Int) == 1) = true from rfl, cond_true,
    w64 (x := 2 * u) (by omega) (by omega), cf (by omega), nodes51, w64 (x := 6 + n) (by omega) (by omega), w64 (x := 6 + n + nodes n f c u) (by omega) (by omega), w64 (by omega) (by omega), Int.add_zero]

/-- What is done ahead of an end. -/
noncomputable def clS (n f c u : Int) (a : Int) (b : Bool) (d : Int) (l : List ByteArray) (w : WL) : St := layS (6 + n + nodes n f c u) Z a b d l w

theorem clearP {β : Type} (h : rt n f c u) (hd : DS m k a d l w) (hk : k < 299) {K : Int → Int → Bool → Int → List ByteArray → WL → Option β} :
    f91_1 20000 n f c u a b d l w (fun x5 x6 x7 x8 => K x5 x6 x7 x8 l w) (fun x a b c d => K 0 x a b c d) (fun x14 x15 x16 x17 x18 x19 => K x14 x15 x16 x17 x18 x19) = app K (clS n f c u a b d l w) := by
  obtain ⟨y, hy⟩ := area0 (β := β) h (K := fun x2 x3 => f81_1 20000 (fun x4 => f106_1 20000 x2 x4 a b d l w (fun x5 x6 x7 x8 => K x5 x6 x7 x8 l w) (fun x9 x10 x11 x12 x13 => K 0 x9 x10 x11 x12 x13) (fun x14 x15 x16 x17 x18 x19 => K x14 x15 x16 x17 x18 x19)))
  rw [f91_1, right46, decide_eq_true h, Bool.not_true, cond_false]
  refine Eq.trans hy ?_
  simp only [zeroP]
  exact layP (by omega) hd hk

theorem clearR {β : Type} (h : rt n f c u) (hd : DS m k a d l w) (hk : k < 299) {K : Int → Int → Bool → Int → List ByteArray → WL → Option β} :
    f93_1 20000 n f c u a b d l w (fun x5 x6 x7 x8 => K x5 x6 x7 x8 l w) (fun x a b c d => K 0 x a b c d) (fun x14 x15 x16 x17 x18 x19 => K x14 x15 x16 x17 x18 x19) = app K (clS n f c u a b d l w) := by
  rw [f93_1, right47, decide_eq_true h, Bool.not_true, cond_false, area0R h, zeroR, writeR hd, wrB_eq, clS, layS]
  by_cases q : (wS (6 + n + nodes n f c u) Z a b d l w).1 = 0
  · have hs := wS_ok (x := 6 + n + nodes n f c u) (t := Z) (b := b) hd (by omega)
    rw [if_pos q, if_neg (show ¬ (wS (6 + n + nodes n f c u) Z a b d l w).1 ≠ 0 from fun hh => hh q), flushR (by omega) hs, flB_eq]
    exact fl_app
  · rw [if_neg q, show ((wS (6 + n + nodes n f c u) Z a b d l w).1 != 0) = true by simp [q], cond_true, if_pos (show (wS (6 + n + nodes n f c u) Z a b d l w).1 ≠ 0 from q)]
    rfl

/-- All that Back does where a shape is right. -/
noncomputable def backS (n f c u : Int) (a : Int) (b : Bool) (d : Int) (l : List ByteArray) (w : WL) (es : List Ent) : St :=
  if (bS es.reverse a b d l w).1 ≠ 0 then ((bS es.reverse a b d l w).1, (bS es.reverse a b d l w).2.1, (bS es.reverse a b d l w).2.2.1, (bS es.reverse a b d l w).2.2.2.1, l, (bS es.reverse a b d l w).2.2.2.2)
  else if (fS (bS es.reverse a b d l w).2.1 (bS es.reverse a b d l w).2.2.1 (bS es.reverse a b d l w).2.2.2.1 l (bS es.reverse a b d l w).2.2.2.2).1 ≠ 0 then fS (bS es.reverse a b d l w).2.1 (bS es.reverse a b d l w).2.2.1 (bS es.reverse a b d l w).2.2.2.1 l (bS es.reverse a b d l w).2.2.2.2
  else clS n f c u (fS (bS es.reverse a b d l w).2.1 (bS es.reverse a b d l w).2.2.1 (bS es.reverse a b d l w).2.2.2.1 l (bS es.reverse a b d l w).2.2.2.2).2.1
    (fS (bS es.reverse a b d l w).2.1 (bS es.reverse a b d l w).2.2.1 (bS es.reverse a b d l w).2.2.2.1 l (bS es.reverse a b d l w).2.2.2.2).2.2.1
    (fS (bS es.reverse a b d l w).2.1 (bS es.reverse a b d l w).2.2.1 (bS es.reverse a b d l w).2.2.2.1 l (bS es.reverse a b d l w).2.2.2.2).2.2.2.1
    (fS (bS es.reverse a b d l w).2.1 (bS es.reverse a b d l w).2.2.1 (bS es.reverse a b d l w).2.2.2.1 l (bS es.reverse a b d l w).2.2.2.2).2.2.2.2.1
    (fS (bS es.reverse a b d l w).2.1 (bS es.reverse a b d l w).2.2.1 (bS es.reverse a b d l w).2.2.2.1 l (bS es.reverse a b d l w).2.2.2.2).2.2.2.2.2

theorem backP {β : Type} (h : rt n f c u) (hd : DS m k a d l w) (hk : k + es.length ≤ 250) (he : es.length ≤ 100) (K0 : Option β) (K : Int → Int → Bool → Int → List ByteArray → WL → Option β) :
    f43_1 20000 n f c u a b d l w es K0 K = app K (backS n f c u a b d l w es) := by
  have hb := bS_ok (b := b) es.reverse hd (by simp; omega)
  have hf := fS_ok (b := (bS es.reverse a b d l w).2.2.1) hb (by simp; omega)
  rw [f43_1, right46, decide_eq_true h, Bool.not_true, cond_false, f89_1, f43_1_r2000004, w64 (by omega) (by omega)]
  rw [backPl (KE := fun e a b c w => K e a b c l w) he (fun _ _ _ _ _ _ _ _ _ => rfl) es.length 20000 hd (by omega) (Nat.le_refl _) (by omega), List.take_length, backS]
  by_cases q : (bS es.reverse a b d l w).1 = 0
  · rw [if_neg (show ¬ (bS es.reverse a b d l w).1 ≠ 0 from fun hh => hh q), if_neg (show ¬ (bS es.reverse a b d l w).1 ≠ 0 from fun hh => hh q), flushP (by omega) hb, flB_eq]
    by_cases q2 : (fS (bS es.reverse a b d l w).2.1 (bS es.reverse a b d l w).2.2.1 (bS es.reverse a b d l w).2.2.2.1 l (bS es.reverse a b d l w).2.2.2.2).1 = 0
    · rw [if_pos q2, if_neg (fun hh => hh q2)]
      exact clearP h hf (by simp; omega)
    · obtain ⟨h1, h2, h3⟩ := fS_same q2
      rw [if_neg q2, if_pos q2, app, h1, h2, h3]
  · rw [if_pos (show (bS es.reverse a b d l w).1 ≠ 0 from q), if_pos (show (bS es.reverse a b d l w).1 ≠ 0 from q)]
    rfl

theorem backR {β : Type} (h : rt n f c u) (hd : DS m k a d l w) (hk : k + es.length ≤ 250) (he : es.length ≤ 100) (K0 : Option β) (K : Int → Int → Bool → Int → List ByteArray → WL → Option β) :
    f44_1 20000 n f c u a b d l w es K0 K = app K (backS n f c u a b d l w es) := by
  have hb := bS_ok (b := b) es.reverse hd (by simp; omega)
  have hf := fS_ok (b := (bS es.reverse a b d l w).2.2.1) hb (by simp; omega)
  rw [f44_1, right47, decide_eq_true h, Bool.not_true, cond_false, w64 (by omega) (by omega)]
  rw [backRl he es.length 20000 hd (by omega) (Nat.le_refl _) (by omega), List.take_length, backS]
  by_cases q : (bS es.reverse a b d l w).1 = 0
  · rw [if_neg (show ¬ (bS es.reverse a b d l w).1 ≠ 0 from fun hh => hh q), if_neg (show ¬ (bS es.reverse a b d l w).1 ≠ 0 from fun hh => hh q), flushR (by omega) hb, flB_eq]
    by_cases q2 : (fS (bS es.reverse a b d l w).2.1 (bS es.reverse a b d l w).2.2.1 (bS es.reverse a b d l w).2.2.2.1 l (bS es.reverse a b d l w).2.2.2.2).1 = 0
    · rw [if_pos q2, if_neg (fun hh => hh q2)]
      exact clearR h hf (by simp; omega)
    · obtain ⟨h1, h2, h3⟩ := fS_same q2
      rw [if_neg q2, if_pos q2, app, h1, h2, h3]
  · rw [if_pos (show (bS es.reverse a b d l w).1 ≠ 0 from q), if_pos (show (bS es.reverse a b d l w).1 ≠ 0 from q)]
    rfl

theorem layS_ok {x : Int} {t : ByteArray} (h : DS m k a d l w) (hk : k < 299) : DS m (k + 2) (layS x t a b d l w).2.1 (layS x t a b d l w).2.2.2.1 (layS x t a b d l w).2.2.2.2.1 (layS x t a b d l w).2.2.2.2.2 := by
  have h1 := wS_ok (x := x) (t := t) (b := b) h (by omega)
  unfold layS
  by_cases q : (wS x t a b d l w).1 = 0
  · rw [if_neg (show ¬ (wS x t a b d l w).1 ≠ 0 from fun hh => hh q)]
    exact fS_ok h1 (by omega)
  · rw [if_pos (show (wS x t a b d l w).1 ≠ 0 from q)]
    rw [wS_same q] at h1
    exact h1.more (by omega)

theorem backS_ok (hd : DS m k a d l w) (hk : k + es.length ≤ 250) : DS m (k + es.length + 3) (backS n f c u a b d l w es).2.1 (backS n f c u a b d l w es).2.2.2.1 (backS n f c u a b d l w es).2.2.2.2.1 (backS n f c u a b d l w es).2.2.2.2.2 := by
  have hb := bS_ok (b := b) es.reverse hd (by simp; omega)
  have hf := fS_ok (b := (bS es.reverse a b d l w).2.2.1) hb (by simp; omega)
  rw [List.length_reverse] at hb hf
  unfold backS
  by_cases q : (bS es.reverse a b d l w).1 = 0
  · rw [if_neg (show ¬ (bS es.reverse a b d l w).1 ≠ 0 from fun hh => hh q)]
    by_cases q2 : (fS (bS es.reverse a b d l w).2.1 (bS es.reverse a b d l w).2.2.1 (bS es.reverse a b d l w).2.2.2.1 l (bS es.reverse a b d l w).2.2.2.2).1 = 0
    · rw [if_neg (fun hh => hh q2)]
      exact layS_ok hf (by omega)
    · rw [if_pos q2]
      exact (hf.more (by omega)).more (by omega)
  · rw [if_pos (show (bS es.reverse a b d l w).1 ≠ 0 from q)]
    exact ((hb.more (by omega)).more (by omega)).more (by omega)

theorem backP0 {β : Type} (h : ¬ rt n f c u) (K0 : Option β) (K : Int → Int → Bool → Int → List ByteArray → WL → Option β) : f43_1 20000 n f c u a b d l w es K0 K = K0 := by
  rw [f43_1, right46, decide_eq_false h]; rfl
theorem backR0 {β : Type} (h : ¬ rt n f c u) (K0 : Option β) (K : Int → Int → Bool → Int → List ByteArray → WL → Option β) : f44_1 20000 n f c u a b d l w es K0 K = K0 := by
  rw [f44_1, right47, decide_eq_false h]; rfl

end

end Go.Proofs.Ytillbabmlfjegaa.X
end

section
/- The law: sectors as they were. -/
namespace Go.Proofs.Ytillbabmlfjegaa.X
open Go Go.Proofs.Ytillbabmlfjegaa.Ev
set_option linter.unusedSectionVars false
variable [FZ]
set_option linter.unusedVariables false
set_option linter.unusedSimpArgs false

theorem known16 {β : Type} {K : Bool → Option β} : f32_1 20000 K = K true := by kernel_rfl

set_option maxRecDepth 100000 in
theorem new60 {β : Type} {K0 : Option β} {K1 : List ByteArray → WL → Option β} : f33_1 20000 60 K0 K1 = K1 (List.replicate 60 Z) [] := by kernel_rfl
set_option maxRecDepth 100000 in
theorem new60R {β : Type} {K0 : Option β} {K1 : List ByteArray → WL → Option β} : f34_1 20000 60 K0 K1 = K1 (List.replicate 60 Z) [] := by kernel_rfl

theorem DS.new60 : DS 60 0 (-1) 0 (List.replicate 60 Z) [] := ⟨by omega, by omega, by simp, by simp, fun p hp => (by cases hp), by omega, by omega⟩

section
variable {x z n f c u : Int} {ps : WL} {es : List Ent}

theorem wrl {β : Type} {K0 : Bool → Int → Bool → Int → WL → Int → Bool → Int → WL → Option β} {K1 : Int → Bool → Int → WL → Int → Bool → Int → WL → Option β} {l : List ByteArray} {r0 : Option β} (hp : ps.length ≤ 30) (h0 : ∀ a b c w, K0 true a b c w a b c w = r0) (h1 : ∀ a b c w, DS 60 30 a c l w → K1 a b c w a b c w = r0) :
    ∀ (r : WL) (i k : Nat) {a d : Int} {b : Bool} {w : WL}, ps.drop i = r → i ≤ ps.length → r.length < k → DS 60 i a d l w →
    f6_1_l6_4 20000 x ps es n f c u l l K0 K1 k (i : Int) a b d w a b d w = r0
  | [], i, 0, _, _, _, _, _, _, hk, _ => by simp at hk
  | _ :: _, i, 0, _, _, _, _, _, _, hk, _ => by simp at hk
  | [], i, k + 1, a, d, b, w, hd, hi, _, h => by
    have := len_of_drop_nil hd hi
    rw [f6_1_l6_4, cf (by omega)]
    exact h1 _ _ _ _ ⟨h.n40, by omega, h.len, by have := h.wl; omega, h.wb, h.ar, by have := h.cr; omega⟩
  | p :: r, i, k + 1, a, d, b, w, hd, hi, hk, h => by
    obtain ⟨q1, q2, q3⟩ := getD_of_drop (d := ((0, ByteArray.empty) : Int × ByteArray)) hd
    have e1 : decide ((0 : Int) ≤ (i : Int) ∧ (i : Int) < ((ps.length : Nat) : Int)) = true := decide_eq_true (by omega)
    have e2 : decide (0 + (i : Int).toNat < ps.length) = true := decide_eq_true (by omega)
    rw [f6_1_l6_4, ct (by omega), e1, e2, q2, w64 (by omega) (by omega)]
    simp only [cond_true, known16]
    by_cases h2 : (p.2.size : Int) > 200
    · rw [ct h2]; exact h0 _ _ _ _
    · rw [cf h2, writeP h, wrB_eq]
      simp only [writeR h, wrB_eq]
      have hs := wS_ok (x := p.1) (t := p.2) (b := b) h (by omega)
      by_cases q : (wS p.1 p.2 a b d l w).1 = 0
      · simp only [if_pos q]
        exact wrl hp h0 h1 r (i + 1) k q3 (by omega) (by simp at hk; omega) hs
      · simp only [if_neg q]
        have := wrl hp h0 h1 r (i + 1) k (b := (wS p.1 p.2 a b d l w).2.2.1) q3 (by omega) (by simp at hk; omega) hs
        rw [wS_same q] at this
        exact this

theorem sizes {β : Type} {a1 a2 b1 b2 : Int} {o1 o2 : Bool} {l1 l2 : List ByteArray} {w1 w2 : WL} {K0 : Bool → Option β} {K1 r0 : Option β} (he : es.length ≤ 30) (h0 : K0 true = r0) (h1 : K1 = r0) : ∀ (r : List Ent) (i k : Nat), es.drop i = r → i ≤ es.length → r.length < k →
    f6_1_l13_4 20000 x ps es n f c u a1 o1 b1 l1 w1 a2 o2 b2 l2 w2 K0 K1 k (i : Int) = r0
  | [], i, 0, _, _, hk => by simp at hk
  | _ :: _, i, 0, _, _, hk => by simp at hk
  | [], i, k + 1, hd, hi, _ => by
    have := len_of_drop_nil hd hi
    rw [f6_1_l13_4, cf (by omega)]; exact h1
  | p :: r, i, k + 1, hd, hi, hk => by
    obtain ⟨q1, q2, q3⟩ := getD_of_drop (d := dE) hd
    rw [f6_1_l13_4, ct (by omega), ct (by omega), ct (by omega), q2, w64 (by omega) (by omega), known16]
    by_cases h2 : (p.2.2.2.size : Int) > 200
    · rw [ct h2]; exact h0
    · rw [cf h2]
      exact sizes he h0 h1 r (i + 1) k q3 (by omega) (by simp at hk; omega)

theorem sectl {β : Type} {a d : Int} {b : Bool} {l : List ByteArray} {w : WL} {K0 K1 : Option β} (hl : l.length = 60) : ∀ (j i k : Nat), j + i = 60 → j < k →
    f6_1_l28_2 20000 ps es a b d l w a b d l w K0 K1 k (i : Int) = K1
  | _, _, 0, _, h => by omega
  | 0, i, k + 1, hi, _ => by rw [f6_1_l28_2, cf (by omega)]
  | j + 1, i, k + 1, hi, hk => by
    rw [f6_1_l28_2, ct (by omega), keptP, ct (by omega), ct (by omega), kp, if_pos (by omega), Nat.zero_add, show ∀ s : ByteArray, (!(s.toList == s.toList)) = false from fun s => by simp, cond_false, w64 (by omega) (by omega)]
    exact sectl hl j (i + 1) k (by omega) (by omega)

/-- What is asked at the end. -/
theorem tail {β : Type} {k : Nat} {a d : Int} {b : Bool} {l : List ByteArray} {w : WL} (h : DS 60 k a d l w) {X K1 : Option β} :
    f47_1 20000 a b d l w (fun x290 => f46_1 20000 x290 w (fun x291 => cond (!x291) X (f6_1_l28_2 20000 ps es a b d l w a b d l w X K1 20000 0))) = K1 := by
  have h1 := h.k300; have h2 := h.wl
  rw [f47_1, cloneW (by omega), f46_1, show ((w.length : Int) != (w.length : Int)) = false by simp, cond_false]
  refine Eq.trans (putsl (by omega) w 0 20000 rfl (by omega) (by omega)) ?_
  rw [Bool.not_true, cond_false]
  exact sectl h.len 60 0 20000 (by omega) (by omega)
end

theorem tells {β : Type} (n f c u x : Int) (ps : WL) (es : List Ent) (K : Bool → Option β) : f6_1 20000 n f c u x ps es K = K true := by
  rw [f6_1, known16]
  by_cases h1 : ((ps.length : Nat) : Int) > 30
  · rw [ct h1]
  · by_cases h2 : ((es.length : Nat) : Int) > 30
    · rw [cf h1, ct h2]
    · rw [cf h1, cf h2, new60, new60R]
      refine wrl (by omega) (fun _ _ _ _ => rfl) (fun a b d w hd => ?_) ps 0 20000 rfl (by omega) (by omega) DS.new60
      refine sizes (by omega) rfl ?_ es 0 20000 rfl (by omega) (by omega)
      have e : ∀ s : ByteArray, (!(s.toList == s.toList)) = false := fun s => by simp
      have e2 : ∀ s : Bool, (!(s == s)) = false := fun s => by simp
      have e3 : ∀ s : Int, (s != s) = false := fun s => by simp
      have hfu := hd.fuse (x := IntKind.i64.wrap (((ps.length : Nat) : Int) + 1)) (by omega) (by rw [w64 (by omega) (by omega)]; omega)
      rw [findP (by omega) (by omega), findR (by omega) (by omega), viewP (by omega) hd (by omega), viewR (by omega) hd (by omega), e, cond_false, e2, cond_false, e, cond_false, e3, cond_false, f41_1, f42_1]
      generalize (if (-1 : Int) > IntKind.i64.wrap (((ps.length : Nat) : Int) + 1) then (-1 : Int) else IntKind.i64.wrap (((ps.length : Nat) : Int) + 1)) = fu at hfu
      by_cases hr : rt n f c u
      · have hbk := backS_ok (n := n) (f := f) (c := c) (u := u) (b := b) (es := es) hfu (by omega)
        have bP := fun K0 K => backP (β := β) (es := es) (b := b) hr hfu (by omega) (by omega) K0 K
        have bR := fun K0 K => backR (β := β) (es := es) (b := b) hr hfu (by omega) (by omega) K0 K
        simp only [bP, bR, app, f45_1, e3, cond_false, known16, amb_self]
        exact tail hbk
      · simp only [backP0 hr, backR0 hr, f45_1, e3, cond_false, known16, amb_self]
        exact tail hfu

theorem law_true {β : Type} (n f c u x : Int) (ps : WL) (es : List Ent) {q1 q2 q3 q4 q5 q6 q7 q8 q9 : Prop} (_ : q1) (_ : q2) (_ : q3) (_ : q4) (_ : q5) (_ : q6) (_ : q7) (_ : q8) (_ : q9) (r : β) : ∃ F, f6_1 F n f c u x ps es (fun b => cond b (some r) none) = some r := ⟨20000, by rw [tells]; rfl⟩

end Go.Proofs.Ytillbabmlfjegaa.X
end
