/- Places on disks: what the code reckons is what the document's answer reckons. -/
import Derived.Test.YtlokielmpdjedaaEvF10
namespace Go.Proofs.Ytlokielmpdjedaa.X
open Go Go.Proofs.Ytlokielmpdjedaa.Ev
set_option linter.unusedVariables false

theorem w64 {x : Int} (h : -9223372036854775808 ≤ x) (h' : x ≤ 9223372036854775807) : IntKind.i64.wrap x = x := by
  simp only [IntKind.wrap, IntKind.bits, IntKind.signed, Bool.true_and]
  split <;> (rename_i hq; simp at hq; omega)

def lv : Nat → Int → Int → List Int
  | 0, _, _ => []
  | k + 1, n, f => if n > 1 then ((n + f - 1) / f) :: lv k ((n + f - 1) / f) f else []

theorem step_eq {n f : Int} (hf : 2 ≤ f ∧ f ≤ 4) (h1 : 1 < n) (h2 : n ≤ 128) :
    IntKind.i64.wrap ((IntKind.i64.wrap ((IntKind.i64.wrap (n + f)) - 1)).tdiv f) = (n + f - 1) / f ∧ 1 ≤ (n + f - 1) / f ∧ (n + f - 1) / f < n := by
  rw [w64 (x := n + f) (by omega) (by omega), w64 (x := n + f - 1) (by omega) (by omega), Int.tdiv_eq_ediv_of_nonneg (by omega)]
  have : f = 2 ∨ f = 3 ∨ f = 4 := by omega
  rcases this with rfl | rfl | rfl
  · rw [w64 (by omega) (by omega)]; omega
  · rw [w64 (by omega) (by omega)]; omega
  · rw [w64 (by omega) (by omega)]; omega

theorem lev48 {β : Type} {F : Nat} {x f c u : Int} (hf : 2 ≤ f ∧ f ≤ 4) {K : List Int → Option β} : ∀ (k : Nat) (n : Int) (acc : List Int), 1 ≤ n → n ≤ 128 → n < k → (acc.length : Int) + n ≤ 2000 →
    f48_1_l5 F x f c u K k n acc = K (acc ++ lv k n f)
  | 0, n, acc, h1, h2, h3, h4 => by omega
  | k + 1, n, acc, h1, h2, h3, h4 => by
    simp only [f48_1_l5, lv]
    by_cases hn : n > 1
    · obtain ⟨e, g1, g2⟩ := step_eq hf hn h2
      rw [e]
      have h0 : ¬ f = 0 := by omega
      have hl : (acc.length + 1) * 8 ≤ 70368744177664 := by omega
      simp only [hn, h0, hl, decide_true, decide_false, cond_true, cond_false, if_true]
      rw [lev48 hf k _ _ g1 (by omega) (by omega) (by simp; omega)]
      simp
    · simp [hn]

theorem lev49 {β : Type} {F : Nat} {x f c u : Int} (hf : 2 ≤ f ∧ f ≤ 4) {K : List Int → Option β} : ∀ (k : Nat) (n : Int) (acc : List Int), 1 ≤ n → n ≤ 128 → n < k → (acc.length : Int) + n ≤ 2000 →
    f49_1_l5 F x f c u K k n acc = K (acc ++ lv k n f)
  | 0, n, acc, h1, h2, h3, h4 => by omega
  | k + 1, n, acc, h1, h2, h3, h4 => by
    simp only [f49_1_l5, lv]
    by_cases hn : n > 1
    · obtain ⟨e, g1, g2⟩ := step_eq hf hn h2
      rw [e]
      have h0 : ¬ f = 0 := by omega
      have hl : (acc.length + 1) * 8 ≤ 70368744177664 := by omega
      simp only [hn, h0, hl, decide_true, decide_false, cond_true, cond_false, if_true]
      rw [lev49 hf k _ _ g1 (by omega) (by omega) (by simp; omega)]
      simp
    · simp [hn]

theorem lv_ok {f : Int} (hf : 2 ≤ f ∧ f ≤ 4) : ∀ (k : Nat) (n : Int), 1 ≤ n → n ≤ 128 → ((lv k n f).length : Int) < n ∧ ∀ y ∈ lv k n f, 1 ≤ y ∧ y ≤ 128
  | 0, n, h1, h2 => by simp [lv]; omega
  | k + 1, n, h1, h2 => by
    simp only [lv]
    by_cases hn : n > 1
    · obtain ⟨e, g1, g2⟩ := step_eq hf hn h2
      obtain ⟨q1, q2⟩ := lv_ok hf k _ g1 (by omega)
      rw [if_pos hn]
      refine ⟨by simp; omega, fun y hy => ?_⟩
      rcases List.mem_cons.1 hy with rfl | hy
      · omega
      · exact q2 y hy
    · rw [if_neg hn]; simp; omega

/-- The geometry can be. -/
def rt (n f c u : Int) : Prop := (1 ≤ n ∧ n ≤ 128) ∧ (2 ≤ f ∧ f ≤ 4) ∧ (0 ≤ c ∧ c ≤ 64) ∧ (1 ≤ u ∧ u ≤ 320)
instance (n f c u : Int) : Decidable (rt n f c u) := by unfold rt; infer_instance

theorem cnd {β : Type} {p q : Prop} [Decidable p] [Decidable q] {K : Bool → Option β} : cond (decide p) (K (decide q)) (K false) = K (decide (p ∧ q)) := by
  by_cases h : p <;> simp [h]

theorem within87 {β : Type} {F : Nat} {a b c : Int} {K : Bool → Option β} : f87_1 F a b c K = K (decide (a ≥ b ∧ a ≤ c)) := by
  simp only [f87_1, cnd]

theorem right46 {β : Type} {F : Nat} {n f c u : Int} {K : Bool → Option β} : f46_1 F n f c u K = K (decide (rt n f c u)) := by
  simp only [f46_1, within87, cnd]
  congr 1

theorem right47 {β : Type} {F : Nat} {n f c u : Int} {K : Bool → Option β} : f47_1 F n f c u K = K (decide (rt n f c u)) := by
  simp only [f47_1, cnd]
  congr 1
  exact decide_eq_decide.2 (by unfold rt; omega)

def levels (n f c u : Int) : List Int := if rt n f c u then n :: lv 1000 n f else []

theorem levels48 {β : Type} {n f c u : Int} {K : List Int → Option β} : f48_1 1000 n f c u K = K (levels n f c u) := by
  simp only [f48_1, right46, levels]
  by_cases h : rt n f c u
  · simp only [h, decide_true, Bool.not_true, cond_false, if_true]
    rw [lev48 h.2.1 1000 n [n] h.1.1 h.1.2 (by have := h.1.2; omega) (by have := h.1.2; simp; omega)]
    rfl
  · simp [h]

theorem levels49 {β : Type} {n f c u : Int} {K : List Int → Option β} : f49_1 1000 n f c u K = K (levels n f c u) := by
  simp only [f49_1, right47, levels]
  by_cases h : rt n f c u
  · simp only [h, decide_true, Bool.not_true, cond_false, if_true]
    rw [lev49 h.2.1 1000 n [n] h.1.1 h.1.2 (by have := h.1.2; omega) (by have := h.1.2; simp; omega)]
    rfl
  · simp [h]

theorem levels_ok (n f c u : Int) : (levels n f c u).length ≤ 128 ∧ ∀ y ∈ levels n f c u, 1 ≤ y ∧ y ≤ 128 := by
  unfold levels
  split
  · rename_i h
    obtain ⟨q1, q2⟩ := lv_ok h.2.1 1000 n h.1.1 h.1.2
    have := h.1
    refine ⟨by simp; omega, fun y hy => ?_⟩
    rcases List.mem_cons.1 hy with rfl | hy
    · omega
    · exact q2 y hy
  · simp

def sumI : List Int → Int
  | [] => 0
  | x :: r => x + sumI r

theorem sumI_ok : ∀ (l : List Int), (∀ y ∈ l, 1 ≤ y ∧ y ≤ 128) → (l.length : Int) ≤ sumI l ∧ sumI l ≤ 128 * l.length
  | [], _ => by simp [sumI]
  | x :: r, h => by
    obtain ⟨q1, q2⟩ := sumI_ok r fun y hy => h y (by simp [hy])
    have := h x (by simp)
    simp only [sumI, List.length_cons]
    omega

theorem sum50 {β : Type} {F : Nat} {K : Int → Option β} (l : List Int) (hl : l.length ≤ 128) (hy : ∀ y ∈ l, 1 ≤ y ∧ y ≤ 128) : ∀ (r : List Int) (i : Nat) (k : Nat) (s : Int), l.drop i = r → i ≤ l.length → r.length < k → 0 ≤ s → s ≤ 128 * i →
    f50_1_l3 F ((l.length : Nat) : Int) l K k s (i : Int) = K (s + sumI r)
  | [], i, k, s, hd, hi, hk, h0, h1 => by
    cases k with
    | zero => omega
    | succ k =>
      have : i = l.length := by
        have := congrArg List.length hd
        simp at this; omega
      subst this
      simp [f50_1_l3, sumI]
  | x :: r, i, k, s, hd, hi, hk, h0, h1 => by
    cases k with
    | zero => omega
    | succ k =>
      have hlen : l.length - i = r.length + 1 := by
        have := congrArg List.length hd
        simpa using this
      have hlt : i < l.length := by omega
      have hx : l[i]? = some x := by
        have := congrArg (·[0]?) hd
        simpa using this
      have hm := hy x (List.mem_of_getElem? hx)
      have hdr : l.drop (i + 1) = r := by
        rw [← List.drop_drop, hd]; rfl
      simp only [f50_1_l3]
      have e1 : decide ((i : Int) < ((l.length : Nat) : Int)) = true := by simp; omega
      have e2 : decide ((0 : Int) ≤ (i : Int) ∧ (i : Int) < ((l.length : Nat) : Int)) = true := by simp; omega
      have e3 : decide (0 + (i : Int).toNat < l.length) = true := by simp; omega
      have e4 : l.getD (0 + (i : Int).toNat) 0 = x := by
        rw [List.getD_eq_getElem?_getD]; simp [hx]
      rw [e1, e2, e3, e4, cond_true, cond_true, cond_true, w64 (by omega) (by omega), w64 (by omega) (by omega)]
      have := sum50 (F := F) (K := K) l hl hy r (i + 1) k (s + x) hdr (by omega) (by simpa using hk) (by omega) (by omega)
      rw [show ((i : Int) + 1) = ((i + 1 : Nat) : Int) by omega, this]
      congr 1
      simp only [sumI]; omega

theorem sum51 {β : Type} {F : Nat} {K : Int → Option β} (l : List Int) (hl : l.length ≤ 128) (hy : ∀ y ∈ l, 1 ≤ y ∧ y ≤ 128) : ∀ (r : List Int) (i : Nat) (k : Nat) (s : Int), l.drop i = r → i ≤ l.length → r.length < k → 0 ≤ s → s ≤ 128 * i →
    f51_1_l4 F l K k s (i : Int) = K (s + sumI r)
  | [], i, k, s, hd, hi, hk, h0, h1 => by
    cases k with
    | zero => omega
    | succ k =>
      have : i = l.length := by
        have := congrArg List.length hd
        simp at this; omega
      subst this
      simp [f51_1_l4, sumI]
  | x :: r, i, k, s, hd, hi, hk, h0, h1 => by
    cases k with
    | zero => omega
    | succ k =>
      have hlen : l.length - i = r.length + 1 := by
        have := congrArg List.length hd
        simpa using this
      have hlt : i < l.length := by omega
      have hx : l[i]? = some x := by
        have := congrArg (·[0]?) hd
        simpa using this
      have hm := hy x (List.mem_of_getElem? hx)
      have hdr : l.drop (i + 1) = r := by
        rw [← List.drop_drop, hd]; rfl
      simp only [f51_1_l4]
      have e1 : decide ((i : Int) < ((l.length : Nat) : Int)) = true := by simp; omega
      have e2 : decide ((0 : Int) ≤ (i : Int) ∧ (i : Int) < ((l.length : Nat) : Int)) = true := by simp; omega
      have e3 : decide (0 + (i : Int).toNat < l.length) = true := by simp; omega
      have e4 : l.getD (0 + (i : Int).toNat) 0 = x := by
        rw [List.getD_eq_getElem?_getD]; simp [hx]
      rw [e1, e2, e3, e4, cond_true, cond_true, cond_true, w64 (by omega) (by omega), w64 (by omega) (by omega)]
      have := sum51 (F := F) (K := K) l hl hy r (i + 1) k (s + x) hdr (by omega) (by simpa using hk) (by omega) (by omega)
      rw [show ((i : Int) + 1) = ((i + 1 : Nat) : Int) by omega, this]
      congr 1
      simp only [sumI]; omega

def nodes (n f c u : Int) : Int := sumI (levels n f c u)

theorem nodes_ok (n f c u : Int) : 0 ≤ nodes n f c u ∧ nodes n f c u ≤ 16384 ∧ (rt n f c u → 1 ≤ nodes n f c u) ∧ (¬ rt n f c u → nodes n f c u = 0) := by
  obtain ⟨h1, h2⟩ := levels_ok n f c u
  obtain ⟨h3, h4⟩ := sumI_ok _ h2
  unfold nodes
  refine ⟨by omega, by omega, fun h => ?_, fun h => by simp [levels, h, sumI]⟩
  have : 1 ≤ (levels n f c u).length := by simp [levels, h]
  omega

theorem nodes50 {β : Type} {n f c u : Int} {K : Int → Option β} : f50_1 1000 n f c u K = K (nodes n f c u) := by
  obtain ⟨h1, h2⟩ := levels_ok n f c u
  simp only [f50_1, levels48]
  have := sum50 (F := 1000) (K := K) (levels n f c u) h1 h2 _ 0 1000 0 rfl (by omega) (by simp; omega) (by omega) (by omega)
  simp only [List.drop_zero, Int.zero_add] at this
  exact this

theorem nodes51 {β : Type} {n f c u : Int} {K : Int → Option β} : f51_1 1000 n f c u K = K (nodes n f c u) := by
  obtain ⟨h1, h2⟩ := levels_ok n f c u
  simp only [f51_1, levels49]
  have := sum51 (F := 1000) (K := K) (levels n f c u) h1 h2 _ 0 1000 0 rfl (by omega) (by simp; omega) (by omega) (by omega)
  simp only [List.drop_zero, Int.zero_add] at this
  exact this


theorem wrap2 {x : Int} (h : 0 ≤ x ∧ x ≤ 320) : IntKind.i64.wrap (2 * x) = 2 * x := w64 (by omega) (by omega)

def ar (c u s : Int) : Int := if s = 0 then 2 * c else if s = 1 then 2 * u else -1

theorem ar_ok {n f c u s : Int} (h : rt n f c u) : -1 ≤ ar c u s ∧ ar c u s ≤ 640 ∧ ((s = 0 ∨ s = 1) ↔ 0 ≤ ar c u s) := by
  unfold rt at h; unfold ar
  split
  · omega
  · split <;> omega

def sz (n f c u s : Int) : Int := if rt n f c u ∧ 0 ≤ ar c u s then 6 + n + nodes n f c u + ar c u s else 0

theorem area86 {β : Type} {n f c u s : Int} {K : Int → Bool → Option β} (z : Option β) (hK : ∀ x, K x false = z) : f86_1 1000 n f c u s K = if rt n f c u ∧ 0 ≤ ar c u s then K (ar c u s) true else z := by
  simp only [f86_1, right46]
  by_cases hr : rt n f c u
  · have h := hr
    unfold rt at h
    by_cases h0 : s = 0
    · subst h0
      have e3 : ar c u 0 = 2 * c := rfl
      simp only [beq_self_eq_true, cond_true, hr, decide_true, wrap2 (x := c) (by omega), e3, true_and]
      rw [if_pos (by omega)]
    · by_cases h1 : s = 1
      · subst h1
        have e : ((1 : Int) == 0) = false := rfl
        have e3 : ar c u 1 = 2 * u := rfl
        simp only [e, beq_self_eq_true, cond_true, cond_false, hr, decide_true, wrap2 (x := u) (by omega), e3, true_and]
        rw [if_pos (by omega)]
      · have e0 : (s == 0) = false := by simpa using h0
        have e1 : (s == 1) = false := by simpa using h1
        simp only [e0, e1, cond_false, hK]
        rw [if_neg (by simp [ar, h0, h1])]
  · simp only [hr, decide_false, hK, false_and, if_false]
    cases s == 0 <;> cases s == 1 <;> rfl

theorem area89 {β : Type} {n f c u s : Int} {K : Int → Option β} (h : rt n f c u) : f89_1 1000 n f c u s K = K (ar c u s) := by
  unfold rt at h
  simp only [f89_1, ar]
  by_cases h0 : s = 0
  · subst h0; simp [wrap2 (x := c) (by omega)]
  · by_cases h1 : s = 1
    · subst h1; simp [wrap2 (x := u) (by omega)]
    · have e0 : (s == 0) = false := by simpa using h0
      have e1 : (s == 1) = false := by simpa using h1
      simp only [e0, e1, cond_false, h0, h1, if_false]

theorem area89' {β : Type} {n f c u s : Int} {K : Int → Option β} (z : Option β) (hK : ∀ x, K x = z) : f89_1 1000 n f c u s K = z := by
  simp only [f89_1, hK]
  cases s == 0 <;> cases s == 1 <;> rfl

theorem size38 {β : Type} {n f c u s : Int} {K : Int → Option β} : f38_1 1000 n f c u s K = K (sz n f c u s) := by
  obtain ⟨n0, n1, n2, n3⟩ := nodes_ok n f c u
  simp only [f38_1, nodes50]
  rw [area86 (K 0) (fun x => rfl)]
  unfold sz
  split
  · rename_i h
    have h1 := ar_ok (s := s) h.1
    have h2 := h.1
    unfold rt at h2
    simp only [Bool.not_true, cond_false]
    rw [w64 (x := 6 + n) (by omega) (by omega), w64 (x := 6 + n + nodes n f c u) (by omega) (by omega), w64 (by omega) (by omega)]
  · rfl

theorem size63 {β : Type} {n f c u s : Int} {K : Int → Option β} : f63_1 1000 n f c u s K = K (sz n f c u s) := by
  obtain ⟨n0, n1, n2, n3⟩ := nodes_ok n f c u
  simp only [f63_1, nodes51, right47]
  by_cases hr : rt n f c u
  · rw [area89 hr]
    have h1 := ar_ok (s := s) hr
    have h2 := hr
    unfold rt at h2
    simp only [hr, decide_true, Bool.not_true, cond_false]
    unfold sz
    by_cases hz : ar c u s < 0
    · simp only [hz, decide_true, cond_true]
      rw [if_neg (by omega)]
    · simp only [hz, decide_false, cond_false]
      rw [if_pos ⟨hr, by omega⟩, w64 (x := 6 + n) (by omega) (by omega), w64 (x := 6 + n + nodes n f c u) (by omega) (by omega), w64 (by omega) (by omega)]
  · rw [area89' (K 0) (fun x => by simp [hr])]
    simp [sz, hr]

theorem data_eq {β : Type} {n f c u i : Int} {K : Int → Option β} : f64_1 1000 n f c u i K = f65_1 1000 n f c u i K := by
  simp only [f64_1, f65_1, right46, right47, within87]
  by_cases hr : rt n f c u
  · have h2 := hr
    unfold rt at h2
    simp only [hr, decide_true, Bool.not_true, cond_false]
    rw [w64 (x := n - 1) (by omega) (by omega)]
    by_cases h3 : i < 0
    · have e : decide (i ≥ 0 ∧ i ≤ n - 1) = false := by simp; omega
      simp only [e, h3, decide_true, Bool.not_false, cond_true]
    · by_cases h4 : i ≥ n
      · have e : decide (i ≥ 0 ∧ i ≤ n - 1) = false := by simp; omega
        simp only [e, h3, h4, decide_true, decide_false, Bool.not_false, cond_true, cond_false]
      · have e : decide (i ≥ 0 ∧ i ≤ n - 1) = true := by simp; omega
        simp only [e, Bool.not_true, cond_false, h3, h4, decide_false]
  · simp [hr]

theorem data_val {β : Type} {n f c u i : Int} : ∃ v : Int, ∀ K : Int → Option β, f65_1 1000 n f c u i K = K v := by
  simp only [f65_1, right47]
  by_cases hr : rt n f c u <;> by_cases h3 : i < 0 <;> by_cases h4 : i ≥ n <;> simp only [hr, h3, h4, decide_true, decide_false, Bool.not_true, Bool.not_false, cond_true, cond_false] <;> exact ⟨_, fun K => rfl⟩

theorem node_eq {β : Type} {n f c u i : Int} {K : Int → Option β} : f66_1 1000 n f c u i K = f67_1 1000 n f c u i K := by
  obtain ⟨n0, n1, n2, n3⟩ := nodes_ok n f c u
  simp only [f66_1, f67_1, f54_1, right46, nodes50, nodes51, within87]
  by_cases hr : rt n f c u
  · have := n2 hr
    simp only [hr, decide_true, Bool.not_true, cond_false]
    rw [w64 (x := nodes n f c u - 1) (by omega) (by omega)]
    have e : (if nodes n f c u - 1 > 0 then nodes n f c u - 1 else 0) = nodes n f c u - 1 := by split <;> omega
    rw [e]
    by_cases h3 : i < 0
    · have e : decide (i ≥ 0 ∧ i ≤ nodes n f c u - 1) = false := by simp; omega
      simp only [e, h3, decide_true, Bool.not_false, cond_true]
    · by_cases h4 : i ≥ nodes n f c u
      · have e : decide (i ≥ 0 ∧ i ≤ nodes n f c u - 1) = false := by simp; omega
        simp only [e, h3, h4, decide_true, decide_false, Bool.not_false, cond_true, cond_false]
      · have e : decide (i ≥ 0 ∧ i ≤ nodes n f c u - 1) = true := by simp; omega
        simp only [e, Bool.not_true, cond_false, h3, h4, decide_false]
  · have := n3 hr
    simp only [hr, decide_false, Bool.not_false, cond_true]
    by_cases h3 : i < 0
    · simp [h3]
    · have h4 : i ≥ nodes n f c u := by omega
      simp [h3, h4]

theorem node_val {β : Type} {n f c u i : Int} : ∃ v : Int, ∀ K : Int → Option β, f67_1 1000 n f c u i K = K v := by
  simp only [f67_1, nodes51]
  by_cases h3 : i < 0 <;> by_cases h4 : i ≥ nodes n f c u <;> simp only [h3, h4, decide_true, decide_false, cond_true, cond_false] <;> exact ⟨_, fun K => rfl⟩

theorem area_eq {β : Type} {n f c u s i : Int} {K : Int → Option β} : f68_1 1000 n f c u s i K = f69_1 1000 n f c u s i K := by
  obtain ⟨n0, n1, n2, n3⟩ := nodes_ok n f c u
  simp only [f68_1, f69_1, right47, nodes50, nodes51, within87]
  rw [area86 (K (-1)) (fun x => rfl)]
  by_cases hr : rt n f c u
  · have h1 := ar_ok (s := s) hr
    rw [area89 hr]
    simp only [hr, true_and, decide_true, Bool.not_true, cond_false]
    by_cases hz : 0 ≤ ar c u s
    · rw [if_pos hz, w64 (x := ar c u s - 1) (by omega) (by omega)]
      by_cases h3 : i < 0
      · have e : decide (i ≥ 0 ∧ i ≤ ar c u s - 1) = false := by simp; omega
        simp only [e, h3, decide_true, Bool.not_false, cond_true]
      · by_cases h4 : i ≥ ar c u s
        · have e : decide (i ≥ 0 ∧ i ≤ ar c u s - 1) = false := by simp; omega
          simp only [e, h3, h4, decide_true, decide_false, Bool.not_false, cond_true, cond_false]
        · have e : decide (i ≥ 0 ∧ i ≤ ar c u s - 1) = true := by simp; omega
          simp only [e, Bool.not_true, cond_false, h3, h4, decide_false]
    · rw [if_neg hz]
      by_cases h3 : i < 0
      · simp [h3]
      · have h4 : i ≥ ar c u s := by omega
        simp [h3, h4]
  · simp [hr]

theorem area_val {β : Type} {n f c u s i : Int} : ∃ v : Int, ∀ K : Int → Option β, f69_1 1000 n f c u s i K = K v := by
  simp only [f69_1, nodes51, right47]
  by_cases hr : rt n f c u
  · simp only [area89 hr]
    by_cases h3 : i < 0 <;> by_cases h4 : i ≥ ar c u s <;> simp only [hr, h3, h4, decide_true, decide_false, Bool.not_true, cond_true, cond_false] <;> exact ⟨_, fun K => rfl⟩
  · simp only [hr, decide_false, Bool.not_false, cond_true]
    exact ⟨_, fun K => rfl⟩

theorem law_true {β : Type} (n f c u a5 a6 : Int) (_ : (Lit.int .i64 n).wf = true) (_ : (Lit.int .i64 f).wf = true) (_ : (Lit.int .i64 c).wf = true) (_ : (Lit.int .i64 u).wf = true) (_ : (Lit.int .i64 a5).wf = true)
    (_ : (Lit.int .i64 a6).wf = true) (r : β) : ∃ F, f10_1 F n f c u a5 a6 (fun b => cond b (some r) none) = some r := by
  refine ⟨1000, ?_⟩
  have hk : ∀ K : Bool → Option β, f62_1 1000 K = K true := fun K => by kernel_rfl
  simp only [f10_1, size38, size63, data_eq, node_eq, area_eq, hk]
  obtain ⟨v1, e1⟩ := data_val (β := β) (n := n) (f := f) (c := c) (u := u) (i := a6)
  obtain ⟨v2, e2⟩ := node_val (β := β) (n := n) (f := f) (c := c) (u := u) (i := a6)
  obtain ⟨v3, e3⟩ := area_val (β := β) (n := n) (f := f) (c := c) (u := u) (s := a5) (i := a6)
  simp only [e1, e2, e3, beq_self_eq_true, cond_true]

end Go.Proofs.Ytlokielmpdjedaa.X
