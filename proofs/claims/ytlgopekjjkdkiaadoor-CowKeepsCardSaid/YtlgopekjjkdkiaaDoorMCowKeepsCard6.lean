/- Merged: GeoA, GeoQ, CowA, CowB, CowC, GeoB, GeoC, GeoD, PureCowKeeps. -/
import Derived.Test.YtlgopekjjkdkiaaDoorMCowKeepsCard5
import Derived.Test.YtlgopekjjkdkiaaDoorMCowKeepsCard3
import Derived.Test.YtlgopekjjkdkiaaDoorMCowKeepsCard4
section
/- Trees' shapes: levels and numbers of nodes; any seat. -/
namespace Go.Proofs.YtlgopekjjkdkiaaDoor.X
open Go Go.Proofs.YtlgopekjjkdkiaaDoor.Ev
set_option linter.unusedSectionVars false
variable [FZ]
set_option linter.unusedVariables false
set_option linter.unusedSimpArgs false

def lv : Nat → Int → Int → List Int
  | 0, _, _ => []
  | k + 1, n, f => if n > 1 then ((n + f - 1) / f) :: lv k ((n + f - 1) / f) f else []

theorem step_eq {n f : Int} (hf : 2 ≤ f ∧ f ≤ 4) (h1 : 1 < n) (h2 : n ≤ 128) :
    IntKind.i64.wrap ((IntKind.i64.wrap ((IntKind.i64.wrap (n + f)) - 1)).tdiv f) = (n + f - 1) / f ∧ 1 ≤ (n + f - 1) / f ∧ (n + f - 1) / f < n := by
  rw [w64 (x := n + f) (by omega) (by omega), w64 (x := n + f - 1) (by omega) (by omega), Int.tdiv_eq_ediv_of_nonneg (by omega)]
  have : f = 2 ∨ f = 3 ∨ f = 4 := by omega
  rcases this with rfl | rfl | rfl
  · rw [w64 (by omega) (by omega)]; omega
  · rw [w64 (by omega) (by omega)]; omega
  · rw [w64 (by omega) (by omega)]; omega

theorem lev48 {β : Type} {F : Nat} {x f c u : Int} (hf : 2 ≤ f ∧ f ≤ 4) {K : List Int → Option β} : ∀ (k : Nat) (n : Int) (acc : List Int), 1 ≤ n → n ≤ 128 → n < k → (acc.length : Int) + n ≤ 2000 →
    f67_1_l5 F x f c u K k n acc = K (acc ++ lv k n f)
  | 0, n, acc, h1, h2, h3, h4 => by omega
  | k + 1, n, acc, h1, h2, h3, h4 => by
    simp only [f67_1_l5, lv]
    by_cases hn : n > 1
    · obtain ⟨e, g1, g2⟩ := step_eq hf hn h2
      rw [e]
      have h0 : ¬ f = 0 := by omega
      have hl : (acc.length + 1) * 8 ≤ 70368744177664 := by omega
      simp only [hn, h0, hl, decide_true, decide_false, cond_true, cond_false, if_true]
      rw [lev48 hf k _ _ g1 (by omega) (by omega) (by simp; omega)]
      simp
    · simp [hn]

theorem lev49 {β : Type} {F : Nat} {x f c u : Int} (hf : 2 ≤ f ∧ f ≤ 4) {K : List Int → Option β} : ∀ (k : Nat) (n : Int) (acc : List Int), 1 ≤ n → n ≤ 128 → n < k → (acc.length : Int) + n ≤ 2000 →
    f44_1_l5 F x f c u K k n acc = K (acc ++ lv k n f)
  | 0, n, acc, h1, h2, h3, h4 => by omega
  | k + 1, n, acc, h1, h2, h3, h4 => by
    simp only [f44_1_l5, lv]
    by_cases hn : n > 1
    · obtain ⟨e, g1, g2⟩ := step_eq hf hn h2
      rw [e]
      have h0 : ¬ f = 0 := by omega
      have hl : (acc.length + 1) * 8 ≤ 70368744177664 := by omega
      simp only [hn, h0, hl, decide_true, decide_false, cond_true, cond_false, if_true]
      rw [lev49 hf k _ _ g1 (by omega) (by omega) (by simp; omega)]
      simp
    · simp [hn]

theorem lv_ok {f : Int} (hf : 2 ≤ f ∧ f ≤ 4) : ∀ (k : Nat) (n : Int), 1 ≤ n → n ≤ 128 → ((lv k n f).length : Int) < n ∧ ∀ y ∈ lv k n f, 1 ≤ y ∧ y ≤ 128
  | 0, n, h1, h2 => by simp [lv]; omega
  | k + 1, n, h1, h2 => by
    simp only [lv]
    by_cases hn : n > 1
    · obtain ⟨e, g1, g2⟩ := step_eq hf hn h2
      obtain ⟨q1, q2⟩ := lv_ok hf k _ g1 (by omega)
      rw [if_pos hn]
      refine ⟨by simp; omega, fun y hy => ?_⟩
      rcases List.mem_cons.1 hy with rfl | hy
      · omega
      · exact q2 y hy
    · rw [if_neg hn]; simp; omega

/-- The geometry can be. -/
def rt (n f c u : Int) : Prop := (1 ≤ n ∧ n ≤ 128) ∧ (2 ≤ f ∧ f ≤ 4) ∧ (0 ≤ c ∧ c ≤ 64) ∧ (1 ≤ u ∧ u ≤ 320)
instance (n f c u : Int) : Decidable (rt n f c u) := by unfold rt; infer_instance

theorem cnd {β : Type} {p q : Prop} [Decidable p] [Decidable q] {K : Bool → Option β} : cond (decide p) (K (decide q)) (K false) = K (decide (p ∧ q)) := by
  by_cases h : p <;> simp [h]

theorem within87 {β : Type} {F : Nat} {a b c : Int} {K : Bool → Option β} : f45_1 F a b c K = K (decide (a ≥ b ∧ a ≤ c)) := by
  simp only [f45_1, cnd]

theorem right46 {β : Type} {F : Nat} {n f c u : Int} {K : Bool → Option β} : f27_1 F n f c u K = K (decide (rt n f c u)) := by
  simp only [f27_1, within87, cnd]
  congr 1

theorem right47 {β : Type} {F : Nat} {n f c u : Int} {K : Bool → Option β} : f5_1 F n f c u K = K (decide (rt n f c u)) := by
  simp only [f5_1, cnd]
  congr 1
  exact decide_eq_decide.2 (by unfold rt; omega)

def levels (n f c u : Int) : List Int := if rt n f c u then n :: lv 20000 n f else []

theorem levels48 {β : Type} {n f c u : Int} {K : List Int → Option β} : f67_1 20000 n f c u K = K (levels n f c u) := by
  simp only [f67_1, right46, levels]
  by_cases h : rt n f c u
  · simp only [h, decide_true, Bool.not_true, cond_false, if_true]
    rw [lev48 h.2.1 20000 n [n] h.1.1 h.1.2 (by have := h.1.2; omega) (by have := h.1.2; simp; omega)]
    rfl
  · simp [h]

theorem levels49 {β : Type} {n f c u : Int} {K : List Int → Option β} : f44_1 20000 n f c u K = K (levels n f c u) := by
  simp only [f44_1, right47, levels]
  by_cases h : rt n f c u
  · simp only [h, decide_true, Bool.not_true, cond_false, if_true]
    rw [lev49 h.2.1 20000 n [n] h.1.1 h.1.2 (by have := h.1.2; omega) (by have := h.1.2; simp; omega)]
    rfl
  · simp [h]

theorem levels_ok (n f c u : Int) : (levels n f c u).length ≤ 128 ∧ ∀ y ∈ levels n f c u, 1 ≤ y ∧ y ≤ 128 := by
  unfold levels
  split
  · rename_i h
    obtain ⟨q1, q2⟩ := lv_ok h.2.1 20000 n h.1.1 h.1.2
    have := h.1
    refine ⟨by simp; omega, fun y hy => ?_⟩
    rcases List.mem_cons.1 hy with rfl | hy
    · omega
    · exact q2 y hy
  · simp

def sumI : List Int → Int
  | [] => 0
  | x :: r => x + sumI r

theorem sumI_ok : ∀ (l : List Int), (∀ y ∈ l, 1 ≤ y ∧ y ≤ 128) → (l.length : Int) ≤ sumI l ∧ sumI l ≤ 128 * l.length
  | [], _ => by simp [sumI]
  | x :: r, h => by
    obtain ⟨q1, q2⟩ := sumI_ok r fun y hy => h y (by simp [hy])
    have := h x (by simp)
    simp only [sumI, List.length_cons]
    omega

theorem sum50 {β : Type} {F : Nat} {K : Int → Option β} (l : List Int) (hl : l.length ≤ 128) (hy : ∀ y ∈ l, 1 ≤ y ∧ y ≤ 128) : ∀ (r : List Int) (i : Nat) (k : Nat) (s : Int), l.drop i = r → i ≤ l.length → r.length < k → 0 ≤ s → s ≤ 128 * i →
    f51_1_l3 F ((l.length : Nat) : Int) l K k s (i : Int) = K (s + sumI r)
  | [], i, k, s, hd, hi, hk, h0, h1 => by
    cases k with
    | zero => omega
    | succ k =>
      have : i = l.length := by
        have := congrArg List.length hd
        simp at this; omega
      subst this
      simp [f51_1_l3, sumI]
  | x :: r, i, k, s, hd, hi, hk, h0, h1 => by
    cases k with
    | zero => omega
    | succ k =>
      have hlen : l.length - i = r.length + 1 := by
        have := congrArg List.length hd
        simpa using this
      have hlt : i < l.length := by omega
      have hx : l[i]? = some x := by
        have := congrArg (·[0]?) hd
        simpa using this
      have hm := hy x (List.mem_of_getElem? hx)
      have hdr : l.drop (i + 1) = r := by
        rw [← List.drop_drop, hd]; rfl
      simp only [f51_1_l3]
      have e1 : decide ((i : Int) < ((l.length : Nat) : Int)) = true := by simp; omega
      have e2 : decide ((0 : Int) ≤ (i : Int) ∧ (i : Int) < ((l.length : Nat) : Int)) = true := by simp; omega
      have e3 : decide (0 + (i : Int).toNat < l.length) = true := by simp; omega
      have e4 : l.getD (0 + (i : Int).toNat) 0 = x := by
        rw [List.getD_eq_getElem?_getD]; simp [hx]
      rw [e1, e2, e3, e4, cond_true, cond_true, cond_true, w64 (by omega) (by omega), w64 (by omega) (by omega)]
      have := sum50 (F := F) (K := K) l hl hy r (i + 1) k (s + x) hdr (by omega) (by simpa using hk) (by omega) (by omega)
      rw [show ((i : Int) + 1) = ((i + 1 : Nat) : Int) by omega, this]
      congr 1
      simp only [sumI]; omega

theorem sum51 {β : Type} {F : Nat} {K : Int → Option β} (l : List Int) (hl : l.length ≤ 128) (hy : ∀ y ∈ l, 1 ≤ y ∧ y ≤ 128) : ∀ (r : List Int) (i : Nat) (k : Nat) (s : Int), l.drop i = r → i ≤ l.length → r.length < k → 0 ≤ s → s ≤ 128 * i →
    f26_1_l4 F l K k s (i : Int) = K (s + sumI r)
  | [], i, k, s, hd, hi, hk, h0, h1 => by
    cases k with
    | zero => omega
    | succ k =>
      have : i = l.length := by
        have := congrArg List.length hd
        simp at this; omega
      subst this
      simp [f26_1_l4, sumI]
  | x :: r, i, k, s, hd, hi, hk, h0, h1 => by
    cases k with
    | zero => omega
    | succ k =>
      have hlen : l.length - i = r.length + 1 := by
        have := congrArg List.length hd
        simpa using this
      have hlt : i < l.length := by omega
      have hx : l[i]? = some x := by
        have := congrArg (·[0]?) hd
        simpa using this
      have hm := hy x (List.mem_of_getElem? hx)
      have hdr : l.drop (i + 1) = r := by
        rw [← List.drop_drop, hd]; rfl
      simp only [f26_1_l4]
      have e1 : decide ((i : Int) < ((l.length : Nat) : Int)) = true := by simp; omega
      have e2 : decide ((0 : Int) ≤ (i : Int) ∧ (i : Int) < ((l.length : Nat) : Int)) = true := by simp; omega
      have e3 : decide (0 + (i : Int).toNat < l.length) = true := by simp; omega
      have e4 : l.getD (0 + (i : Int).toNat) 0 = x := by
        rw [List.getD_eq_getElem?_getD]; simp [hx]
      rw [e1, e2, e3, e4, cond_true, cond_true, cond_true, w64 (by omega) (by omega), w64 (by omega) (by omega)]
      have := sum51 (F := F) (K := K) l hl hy r (i + 1) k (s + x) hdr (by omega) (by simpa using hk) (by omega) (by omega)
      rw [show ((i : Int) + 1) = ((i + 1 : Nat) : Int) by omega, this]
      congr 1
      simp only [sumI]; omega

def nodes (n f c u : Int) : Int := sumI (levels n f c u)

theorem nodes_ok (n f c u : Int) : 0 ≤ nodes n f c u ∧ nodes n f c u ≤ 16384 ∧ (rt n f c u → 1 ≤ nodes n f c u) ∧ (¬ rt n f c u → nodes n f c u = 0) := by
  obtain ⟨h1, h2⟩ := levels_ok n f c u
  obtain ⟨h3, h4⟩ := sumI_ok _ h2
  unfold nodes
  refine ⟨by omega, by omega, fun h => ?_, fun h => by simp [levels, h, sumI]⟩
  have : 1 ≤ (levels n f c u).length := by simp [levels, h]
  omega

theorem nodes50 {β : Type} {n f c u : Int} {K : Int → Option β} : f51_1 20000 n f c u K = K (nodes n f c u) := by
  obtain ⟨h1, h2⟩ := levels_ok n f c u
  simp only [f51_1, levels48]
  have := sum50 (F := 20000) (K := K) (levels n f c u) h1 h2 _ 0 20000 0 rfl (by omega) (by simp; omega) (by omega) (by omega)
  simp only [List.drop_zero, Int.zero_add] at this
  exact this

theorem nodes51 {β : Type} {n f c u : Int} {K : Int → Option β} : f26_1 20000 n f c u K = K (nodes n f c u) := by
  obtain ⟨h1, h2⟩ := levels_ok n f c u
  simp only [f26_1, levels49]
  have := sum51 (F := 20000) (K := K) (levels n f c u) h1 h2 _ 0 20000 0 rfl (by omega) (by simp; omega) (by omega) (by omega)
  simp only [List.drop_zero, Int.zero_add] at this
  exact this


end Go.Proofs.YtlgopekjjkdkiaaDoor.X
end

section
/- Places on disks. -/
namespace Go.Proofs.YtlgopekjjkdkiaaDoor.X
open Go Go.Proofs.YtlgopekjjkdkiaaDoor.Ev
set_option linter.unusedSectionVars false
variable [FZ]
set_option linter.unusedVariables false
set_option linter.unusedSimpArgs false

/-- The place of a data sector; of a sector of an area of m. -/
def dat (n f c u i : Int) : Int := if rt n f c u ∧ 0 ≤ i ∧ i < n then 6 + i else -1
def are (n f c u m k : Int) : Int := if rt n f c u ∧ 0 ≤ k ∧ k < m then 6 + n + nodes n f c u + k else -1

theorem dataP {β : Type} {n f c u i : Int} {K : Int → Option β} : f28_1 20000 n f c u i K = K (dat n f c u i) := by
  rw [f28_1, right46, dat]
  by_cases h : rt n f c u
  · have hn := h.1
    rw [decide_eq_true h, Bool.not_true, cond_false, within87, w64 (x := n - 1) (by omega) (by omega)]
    by_cases h1 : 0 ≤ i ∧ i < n
    · rw [decide_eq_true (show i ≥ 0 ∧ i ≤ n - 1 by omega), Bool.not_true, cond_false, if_pos ⟨h, h1⟩, w64 (by omega) (by omega)]
    · rw [decide_eq_false (show ¬ (i ≥ 0 ∧ i ≤ n - 1) by omega), Bool.not_false, cond_true, if_neg (fun hh => h1 hh.2)]
  · rw [decide_eq_false h, Bool.not_false, cond_true, if_neg (fun hh => h hh.1)]

theorem areaP {β : Type} {n f c u s k : Int} (hs : s = 0 ∨ s = 1) {K : Int → Option β} : f31_1 20000 n f c u s k K = K (are n f c u (if s = 0 then 2 * c else 2 * u) k) := by
  have hno := nodes_ok n f c u
  have key : ∀ m : Int, 0 ≤ m → m ≤ 640 → cond (!(decide (rt n f c u))) (K (-1)) (f45_1 20000 k 0 (IntKind.i64.wrap (m - 1)) (fun x3 => cond (!x3) (K (-1)) (f51_1 20000 n f c u (fun x4 => K (IntKind.i64.wrap ((IntKind.i64.wrap ((IntKind.i64.wrap (6 + n)) + x4)) + k)))))) = K (are n f c u m k) := by
    intro m h0 h1
    rw [are]
    by_cases h : rt n f c u
    · have hn := h.1
      rw [decide_eq_true h, Bool.not_true, cond_false, within87, w64 (x := m - 1) (by omega) (by omega)]
      by_cases h2 : 0 ≤ k ∧ k < m
      · rw [decide_eq_true (show k ≥ 0 ∧ k ≤ m - 1 by omega), Bool.not_true, cond_false, if_pos ⟨h, h2⟩, nodes50, w64 (x := 6 + n) (by omega) (by omega), w64 (x := 6 + n + nodes n f c u) (by omega) (by omega), w64 (by omega) (by omega)]
      · rw [decide_eq_false (show ¬ (k ≥ 0 ∧ k ≤ m - 1) by omega), Bool.not_false, cond_true, if_neg (fun hh => h2 hh.2)]
    · rw [decide_eq_false h, Bool.not_false, cond_true, if_neg (fun hh => h hh.1)]
  have no : ∀ m m' : Int, ¬ rt n f c u → are n f c u m k = are n f c u m' k := fun m m' h => by rw [are, are, if_neg (fun hh => h hh.1), if_neg (fun hh => h hh.1)]
  rw [f31_1, f50_1]
  rcases hs with rfl | rfl
  · rw [show ((0 : Int) == 0) = true from rfl, cond_true, right46, if_pos rfl]
    by_cases h : rt n f c u
    · rw [w64 (x := 2 * c) (by have := h.2.2.1; omega) (by have := h.2.2.1; omega)]
      exact key _ (by have := h.2.2.1; omega) (by have := h.2.2.1; omega)
    · rw [no _ 0 h, ← key 0 (by omega) (by omega), decide_eq_false h]; rfl
  · rw [show ((1 : Int) == 0) = false from rfl, cond_false, show ((1 : Int) == 1) = true from rfl, cond_true, right46, if_neg (by omega)]
    by_cases h : rt n f c u
    · rw [w64 (x := 2 * u) (by have := h.2.2.2; omega) (by have := h.2.2.2; omega)]
      exact key _ (by have := h.2.2.2; omega) (by have := h.2.2.2; omega)
    · rw [no _ 0 h, ← key 0 (by omega) (by omega), decide_eq_false h]; rfl

end Go.Proofs.YtlgopekjjkdkiaaDoor.X
end

section
/- Sectors that are kept: appended, scanned; the code's. -/
namespace Go.Proofs.YtlgopekjjkdkiaaDoor.X
open Go Go.Proofs.YtlgopekjjkdkiaaDoor.Ev
set_option linter.unusedSectionVars false
variable [FZ]
set_option linter.unusedVariables false
set_option linter.unusedSimpArgs false

/-! ### Numbers behind bytes -/

theorem putS {β : Type} {n s : Int} {v l : List Int} {k : Nat} {K : List Int → Option β} (h : 0 ≤ s ∧ s ≤ 100) (hl : l.length ≤ 2000) : f55_1_l6 20000 n v K (k + 1) s l = f55_1_l6 20000 n v K k (s - 8) (l ++ [IntKind.u8.wrap (ishr .u64 n s)]) := by
  rw [f55_1_l6, ct (by omega), cf (by omega), ct (by omega), w64 (by omega) (by omega)]
theorem putE {β : Type} {n : Int} {v l : List Int} {k : Nat} {K : List Int → Option β} : f55_1_l6 20000 n v K (k + 1) (-8) l = K l := by
  rw [f55_1_l6, cf (by omega)]
theorem putL4 {β : Type} {n : Int} {v l : List Int} {k : Nat} {K : List Int → Option β} (hl : l.length ≤ 1000) : f55_1_l6 20000 n v K (k + 1 + 1 + 1 + 1 + 1) 24 l = K (l ++ b4 n) := by
  rw [putS (by omega) (by omega), putS (by omega) (by simp; omega), putS (by omega) (by simp; omega), putS (by omega) (by simp; omega)]
  refine putE.trans ?_
  congr 1
  simp [b4]
theorem putA4 {β : Type} {n : Int} {l : List Int} {K : List Int → Option β} (hl : l.length ≤ 1000) : f55_1 20000 4 n l K = K (l ++ b4 n) := by
  rw [f55_1, w64 (x := ((l.length : Nat) : Int) + 8) (by omega) (by omega), ct ⟨by omega, by omega, by omega, by omega⟩, ct (by omega), f74_1, ct (by omega), decide_eq_true (show (4 : Int) ≤ 8 by omega), cond_ff', List.take_zero, List.nil_append]
  exact putL4 (k := 19995) (K := fun x => K x) hl

/-! ### A head -/

def hdL (e k i s : Int) : List Int := b8 e ++ (b4 k ++ (b4 i ++ b4 s))
def hdB (e k i s : Int) : ByteArray := mkB 8 (ofInts (hdL e k i s))
theorem hdL_len (e k i s : Int) : (hdL e k i s).length = 20 := rfl
theorem hdL_r (e k i s : Int) : byts (hdL e k i s) := app_r (b8_r e) (app_r (b4_r k) (app_r (b4_r i) (b4_r s)))
theorem hdB_size (e k i s : Int) : (hdB e k i s).size = 64 := mkB_size (by rw [oi_size, hdL_len]; omega)

theorem bodyP {β : Type} {e k i s : Int} {K : ByteArray → Option β} : f34_1 20000 e k i s K = K (ofInts (hdL e k i s)) := by
  have h8 : (b8 e).length = 8 := rfl
  have h4 : ∀ n, (b4 n).length = 4 := fun _ => rfl
  rw [f34_1, put8, putA4 (by omega), putA4 (by simp [h8, h4]), putA4 (by simp [h8, h4])]
  simp only [hdL, List.append_assoc]

/-- What the numbers of a head are. -/
def g1 (L : List Int) : Int := num 0 (L.take 8)
def g2 (L : List Int) : Int := num 0 ((L.drop 8).take 4)
def g3 (L : List Int) : Int := num 0 (((L.drop 8).drop 4).take 4)
def g4 (L : List Int) : Int := num 0 ((((L.drop 8).drop 4).drop 4).take 4)

theorem g_hd {e k i s : Int} (he : U64 e) (hk : U32 k) (hi : U32 i) (hs : U32 s) : g1 (hdL e k i s) = e ∧ g2 (hdL e k i s) = k ∧ g3 (hdL e k i s) = i ∧ g4 (hdL e k i s) = s := by
  have d1 : (hdL e k i s).drop 8 = b4 k ++ (b4 i ++ b4 s) := List.drop_left' (l₁ := b8 e) rfl
  have d2 : (b4 k ++ (b4 i ++ b4 s)).drop 4 = b4 i ++ b4 s := List.drop_left' rfl
  have d3 : (b4 i ++ b4 s).drop 4 = b4 s := List.drop_left' rfl
  have t1 : (hdL e k i s).take 8 = b8 e := List.take_left' (l₁ := b8 e) rfl
  have t2 : (b4 k ++ (b4 i ++ b4 s)).take 4 = b4 k := List.take_left' rfl
  have t3 : (b4 i ++ b4 s).take 4 = b4 i := List.take_left' rfl
  have t4 : (b4 s).take 4 = b4 s := rfl
  refine ⟨?_, ?_, ?_, ?_⟩
  · rw [g1, t1, num8 he]
  · rw [g2, d1, t2, num_b4 hk]
  · rw [g3, d1, d2, t3, num_b4 hi]
  · rw [g4, d1, d2, d3, t4, num_b4 hs]

theorem g_r {L : List Int} (hb : byts L) (hl : L.length = 20) : U64 (g1 L) ∧ U32 (g2 L) ∧ U32 (g3 L) ∧ U32 (g4 L) :=
  ⟨(num8_inv (by simp; omega) (take_r 8 hb)).2, (num4_inv (by simp; omega) (take_r 4 (drop_r 8 hb))).2, (num4_inv (by simp; omega) (take_r 4 (drop_r 4 (drop_r 8 hb)))).2, (num4_inv (by simp; omega) (take_r 4 (drop_r 4 (drop_r 4 (drop_r 8 hb))))).2⟩

theorem numOK {w : Nat} {l : List Int} (h1 : 1 ≤ w) (hw : w ≤ 8) (h : w ≤ l.length) (hl : l.length ≤ 100) (hb : byts l) {β : Type} (K : Int → Int → List Int → Option β) : f58_1 20000 (w : Int) 0 l K = K (num 0 (l.take w)) 0 (l.drop w) := by
  refine (numC h1 hw (by omega) hb).trans ?_
  rw [nm, if_neg (by simp), if_pos h]

theorem numE {w : Nat} {e : Int} {l : List Int} (h1 : 1 ≤ w) (hw : w ≤ 8) (hl : l.length ≤ 100) (hb : byts l) : ∃ (v e' : Int) (l' : List Int), (∀ {β : Type} (K : Int → Int → List Int → Option β), f58_1 20000 (w : Int) e l K = K v e' l') ∧ l'.length ≤ 100 ∧ byts l' := by
  refine ⟨(nm w e l).1, (nm w e l).2.1, (nm w e l).2.2, fun K => numC h1 hw (by omega) hb, ?_, ?_⟩
  · unfold nm
    split
    · exact hl
    · split
      · simp; omega
      · exact hl
  · unfold nm
    split
    · exact hb
    · split
      · exact drop_r w hb
      · exact hb

/-- A sector is a head, or none. -/
def isH (s : ByteArray) : Prop := (opn 8 s).2 = 0 ∧ (opn 8 s).1.size = 20
instance (s : ByteArray) : Decidable (isH s) := by unfold isH; infer_instance

theorem readH {s : ByteArray} : ∃ v1 v2 v3 v4 : Int, (∀ {β : Type} (K : Int → Int → Int → Int → Bool → Option β), f35_1 20000 s K = K v1 v2 v3 v4 (decide (isH s))) ∧ (isH s → v1 = g1 (toInts (opn 8 s).1) ∧ v2 = g2 (toInts (opn 8 s).1) ∧ v3 = g3 (toInts (opn 8 s).1) ∧ v4 = g4 (toInts (opn 8 s).1)) := by
  have hos := opn_size 8 s
  have hl := toInts_size (opn 8 s).1
  have hb := toInts_r (opn 8 s).1
  by_cases hH : isH s
  · have h2 := hH.2
    refine ⟨g1 (toInts (opn 8 s).1), g2 (toInts (opn 8 s).1), g3 (toInts (opn 8 s).1), g4 (toInts (opn 8 s).1), fun {β} K => ?_, fun _ => ⟨rfl, rfl, rfl, rfl⟩⟩
    rw [f35_1, openP, f57_1, ct (by omega), List.nil_append]
    refine (numOK (w := 8) (by omega) (by omega) (by omega) (by omega) hb _).trans ?_
    refine (numOK (w := 4) (by omega) (by omega) (by simp; omega) (by simp; omega) (drop_r 8 hb) _).trans ?_
    refine (numOK (w := 4) (by omega) (by omega) (by simp; omega) (by simp; omega) (drop_r 4 (drop_r 8 hb)) _).trans ?_
    refine (numOK (w := 4) (by omega) (by omega) (by simp; omega) (by simp; omega) (drop_r 4 (drop_r 4 (drop_r 8 hb))) _).trans ?_
    rw [hH.1, show ((0 : Int) == 0) = true from rfl, cond_true, decide_eq_true hH, show (((opn 8 s).1.size : Int) == 20) = true by rw [h2]; rfl]
    rfl
  · obtain ⟨v1, e1, l1, k1, p1, q1⟩ := numE (w := 8) (e := 0) (l := toInts (opn 8 s).1) (by omega) (by omega) (by omega) hb
    obtain ⟨v2, e2, l2, k2, p2, q2⟩ := numE (w := 4) (e := e1) (l := l1) (by omega) (by omega) p1 q1
    obtain ⟨v3, e3, l3, k3, p3, q3⟩ := numE (w := 4) (e := e2) (l := l2) (by omega) (by omega) p2 q2
    obtain ⟨v4, e4, l4, k4, p4, q4⟩ := numE (w := 4) (e := e3) (l := l3) (by omega) (by omega) p3 q3
    refine ⟨v1, v2, v3, v4, fun {β} K => ?_, fun hh => (hH hh).elim⟩
    rw [f35_1, openP, f57_1, ct (by omega), List.nil_append]
    refine (k1 _).trans ?_
    refine (k2 _).trans ?_
    refine (k3 _).trans ?_
    refine (k4 _).trans ?_
    rw [decide_eq_false hH]
    by_cases h1 : (opn 8 s).2 = 0
    · have h2 : ¬ (opn 8 s).1.size = 20 := fun h => hH ⟨h1, h⟩
      rw [h1, show ((0 : Int) == 0) = true from rfl, cond_true, show (((opn 8 s).1.size : Int) == 20) = false by simp; omega]
    · rw [show ((opn 8 s).2 == 0) = false by simp [h1], cond_false]

/-! ### Append -/

/-- What Append comes to: an entry's numbers, why not, and the disk. -/
def cwS (n f c u k e i a : Int) (b : Bool) (d : Int) (l : List ByteArray) (w : WL) : Int × Int × ByteArray × St :=
  if ¬ rt n f c u then (0, 0, ByteArray.empty, 12, a, b, d, l, w)
  else if k < 0 ∨ k ≥ c then (0, 0, ByteArray.empty, 11, a, b, d, l, w)
  else if ¬ (0 ≤ i ∧ i < n) then (0, 0, ByteArray.empty, 3, a, b, d, l, w)
  else if (rd (6 + i) b l w).2 ≠ 0 then (0, 0, ByteArray.empty, (rd (6 + i) b l w).2, a, b, d, l, w)
  else if (svS (6 + n + nodes n f c u + (2 * k + 1)) (rd (6 + i) b l w).1 a b d l w).1 ≠ 0 then (0, 0, ByteArray.empty, svS (6 + n + nodes n f c u + (2 * k + 1)) (rd (6 + i) b l w).1 a b d l w)
  else let s1 := svS (6 + n + nodes n f c u + (2 * k + 1)) (rd (6 + i) b l w).1 a b d l w
    let s2 := svS (6 + n + nodes n f c u + 2 * k) (hdB e k i (crc (toInts (rd (6 + i) b l w).1))) s1.2.1 s1.2.2.1 s1.2.2.2.1 s1.2.2.2.2.1 s1.2.2.2.2.2
    if s2.1 ≠ 0 then (0, 0, ByteArray.empty, s2) else (e, i, (rd (6 + i) b l w).1, s2)

def app9 {β : Type} (K : Int → Int → ByteArray → Int → Int → Bool → Int → List ByteArray → WL → Option β) (s : Int × Int × ByteArray × St) : Option β :=
  K s.1 s.2.1 s.2.2.1 s.2.2.2.1 s.2.2.2.2.1 s.2.2.2.2.2.1 s.2.2.2.2.2.2.1 s.2.2.2.2.2.2.2.1 s.2.2.2.2.2.2.2.2

theorem cwrP {β : Type} {m q : Nat} {x a d : Int} {t : ByteArray} {b : Bool} {l : List ByteArray} {w : WL} (h : DS m q a d l w) (hq : q < 299) {K : Int → Int → Bool → Int → List ByteArray → WL → Option β} :
    f30_1 20000 x t a b d l w K = app K (svS x t a b d l w) := by
  rw [f30_1]
  exact svS_P (K := K) h hq

theorem cwP {β : Type} {m q : Nat} {n f c u k e i a d : Int} {b : Bool} {l : List ByteArray} {w : WL} (h : DS m q a d l w) (hq : q < 290) (h64 : (rd (6 + i) b l w).1.size ≤ 100) {K : Int → Int → ByteArray → Int → Int → Bool → Int → List ByteArray → WL → Option β} :
    f9_1 20000 n f c u k e i a b d l w K = app9 K (cwS n f c u k e i a b d l w) := by
  rw [f9_1, right46, cwS]
  by_cases hr : rt n f c u
  · have hn := hr.1
    have hc := hr.2.2.1
    have hno := nodes_ok n f c u
    rw [decide_eq_true hr, Bool.not_true, cond_false, if_neg (fun hh => hh hr)]
    by_cases h1 : k < 0
    · rw [ct h1, if_pos (Or.inl h1)]; rfl
    · by_cases h2 : k ≥ c
      · rw [cf h1, ct h2, if_pos (Or.inr h2)]; rfl
      · rw [cf h1, cf h2, if_neg (show ¬ (k < 0 ∨ k ≥ c) by omega), dataP, dat]
        by_cases h3 : 0 ≤ i ∧ i < n
        · rw [if_pos ⟨hr, h3⟩, if_neg (fun hh => hh h3), cf (by omega), dataP, dat, if_pos ⟨hr, h3⟩, readP (by omega) h]
          by_cases h4 : (rd (6 + i) b l w).2 = 0
          · have hcr := crc_r (toInts (rd (6 + i) b l w).1)
            have htl := toInts_size (rd (6 + i) b l w).1
            rw [bnf h4, cond_false, if_neg (fun hh => hh h4), areaP (.inl rfl), if_pos rfl, are, w64 (x := 2 * k) (by omega) (by omega), w64 (x := 2 * k + 1) (by omega) (by omega), if_pos (show rt n f c u ∧ 0 ≤ 2 * k + 1 ∧ 2 * k + 1 < 2 * c from ⟨hr, by omega, by omega⟩), cwrP h (by omega), app]
            generalize hs1 : svS (6 + n + nodes n f c u + (2 * k + 1)) (rd (6 + i) b l w).1 a b d l w = s1
            have h' := svS_ok (x := 6 + n + nodes n f c u + (2 * k + 1)) (t := (rd (6 + i) b l w).1) (b := b) h (by omega)
            rw [hs1] at h'
            by_cases h5 : s1.1 = 0
            · have hmk : mkR 8 (ofInts (hdL e k i (crc (toInts (rd (6 + i) b l w).1)))) = (hdB e k i (crc (toInts (rd (6 + i) b l w).1)), 0) := by rw [mkR, if_neg (by omega), if_neg (by rw [oi_size, hdL_len]; omega)]; rfl
              have hbig := big60
              rw [bnf h5, cond_false, if_neg (fun hh => hh h5), f33_1, crcP (by omega), wu64 (x := k) (by omega) (by omega), wu64 (x := i) (by omega) (by omega), wu64 (x := crc _) (by omega) (by omega), bodyP, makeP (by rw [oi_size, hdL_len]; omega), hmk, bnf rfl, cond_false, areaP (.inl rfl), if_pos rfl, are, if_pos (show rt n f c u ∧ 0 ≤ 2 * k ∧ 2 * k < 2 * c from ⟨hr, by omega, by omega⟩), cwrP h' (by omega), app]
              by_cases h6 : (svS (6 + n + nodes n f c u + 2 * k) (hdB e k i (crc (toInts (rd (6 + i) b l w).1))) s1.2.1 s1.2.2.1 s1.2.2.2.1 s1.2.2.2.2.1 s1.2.2.2.2.2).1 = 0
              · rw [bnf h6, cond_false]
                show _ = app9 K (if _ then _ else _)
                rw [if_neg (fun hh => hh h6), app9]
                simp only
                rw [h6]
              · rw [bnt h6, cond_true]
                show _ = app9 K (if _ then _ else _)
                rw [if_pos h6]; rfl
            · rw [bnt h5, cond_true, if_pos h5]; rfl
          · rw [bnt h4, cond_true, if_pos h4]; rfl
        · rw [if_neg (fun hh => h3 hh.2), ct (by omega), if_pos h3]; rfl
  · rw [decide_eq_false hr, Bool.not_false, cond_true, if_pos hr]; rfl

end Go.Proofs.YtlgopekjjkdkiaaDoor.X
end

section
/- Sectors that are kept: scanned; the code's. -/
namespace Go.Proofs.YtlgopekjjkdkiaaDoor.X
open Go Go.Proofs.YtlgopekjjkdkiaaDoor.Ev
set_option linter.unusedSectionVars false
variable [FZ]
set_option linter.unusedVariables false
set_option linter.unusedSimpArgs false

abbrev EL := List (Int × (Int × (Int × ByteArray)))

/-- The entries from the k-th on, m of them at most. -/
def scn (n B e : Int) (b : Bool) (l : List ByteArray) (w : WL) : Nat → Nat → EL → Int × EL
  | 0, _, out => (0, out)
  | m + 1, k, out =>
    if (rd (B + 2 * (k : Int)) b l w).2 ≠ 0 then ((rd (B + 2 * (k : Int)) b l w).2, [])
    else if ¬ isH (rd (B + 2 * (k : Int)) b l w).1 ∨ g1 (toInts (opn 8 (rd (B + 2 * (k : Int)) b l w).1).1) ≠ e ∨ g2 (toInts (opn 8 (rd (B + 2 * (k : Int)) b l w).1).1) ≠ (k : Int) ∨ g3 (toInts (opn 8 (rd (B + 2 * (k : Int)) b l w).1).1) ≥ n then (0, out)
    else if (rd (B + (2 * (k : Int) + 1)) b l w).2 ≠ 0 then ((rd (B + (2 * (k : Int) + 1)) b l w).2, [])
    else if crc (toInts (rd (B + (2 * (k : Int) + 1)) b l w).1) ≠ g4 (toInts (opn 8 (rd (B + 2 * (k : Int)) b l w).1).1) then (0, out)
    else scn n B e b l w m (k + 1) (out ++ [(0, (e, (g3 (toInts (opn 8 (rd (B + 2 * (k : Int)) b l w).1).1), (rd (B + (2 * (k : Int) + 1)) b l w).1)))])

theorem scnL {β : Type} {q p : Nat} {n f c u e a d : Int} {b : Bool} {l : List ByteArray} {w : WL} (hr : rt n f c u) (he : U64 e) (h : DS q p a d l w) (hsz : ∀ x, (rd x b l w).1.size ≤ 100) {K : Int → EL → Option β} :
    ∀ (m k fuel : Nat) (out : EL), ((m + k : Nat) : Int) = c → m < fuel → out.length ≤ k →
    f13_1_l5 20000 e c a b d l w n f c u (fun x29 x30 => K x29 []) (fun x31 x32 x33 x34 x35 => K 0 x31) (fun x36 x37 x38 x39 x40 x41 x42 x43 => K x36 []) (fun x44 x45 x46 x47 x48 x49 x50 => K 0 x44) (fun x51 => K 0 x51) fuel (k : Int) out =
      K (scn n (6 + n + nodes n f c u) e b l w m k out).1 (scn n (6 + n + nodes n f c u) e b l w m k out).2
  | _, _, 0, _, _, h, _ => by omega
  | 0, k, fuel + 1, out, hm, _, _ => by
    rw [f13_1_l5, cf (by omega)]; rfl
  | m + 1, k, fuel + 1, out, hm, hf, ho => by
    have hn := hr.1
    have hc := hr.2.2.1
    have hno := nodes_ok n f c u
    rw [f13_1_l5, ct (by omega), w64 (x := 2 * (k : Int)) (by omega) (by omega), areaP (.inl rfl), if_pos rfl, are, if_pos (show rt n f c u ∧ 0 ≤ 2 * (k : Int) ∧ 2 * (k : Int) < 2 * c from ⟨hr, by omega, by omega⟩), readP (by omega) h, scn]
    generalize rd (6 + n + nodes n f c u + 2 * (k : Int)) b l w = s1
    by_cases h1 : s1.2 = 0
    · rw [bnf h1, cond_false, if_neg (fun hh => hh h1)]
      obtain ⟨v1, v2, v3, v4, hv, hg⟩ := readH (s := s1.1)
      rw [hv]
      by_cases h2 : isH s1.1
      · obtain ⟨rfl, rfl, rfl, rfl⟩ := hg h2
        have hL : (toInts (opn 8 s1.1).1).length = 20 := by rw [toInts_size]; exact h2.2
        obtain ⟨r1, r2, r3, r4⟩ := g_r (toInts_r (opn 8 s1.1).1) hL
        generalize toInts (opn 8 s1.1).1 = L at r1 r2 r3 r4
        rw [decide_eq_true h2, Bool.not_true, cond_false]
        by_cases h3 : g1 L = e
        · rw [bnf h3, cond_false, wu64 (x := (k : Int)) (by omega) (by omega)]
          by_cases h4 : g2 L = (k : Int)
          · rw [bnf h4, cond_false, wu64 (x := n) (by omega) (by omega)]
            by_cases h5 : g3 L ≥ n
            · rw [ct h5, if_pos (.inr (.inr (.inr h5)))]
            · rw [cf h5, if_neg (show ¬ (¬ isH s1.1 ∨ g1 L ≠ e ∨ g2 L ≠ (k : Int) ∨ g3 L ≥ n) from fun hh => by
                rcases hh with hh | hh | hh | hh
                · exact hh h2
                · exact hh h3
                · exact hh h4
                · exact h5 hh), w64 (x := 2 * (k : Int) + 1) (by omega) (by omega), areaP (.inl rfl), if_pos rfl, are, if_pos (show rt n f c u ∧ 0 ≤ 2 * (k : Int) + 1 ∧ 2 * (k : Int) + 1 < 2 * c from ⟨hr, by omega, by omega⟩), readP (by omega) h]
              have hsz2 := hsz (6 + n + nodes n f c u + (2 * (k : Int) + 1))
              generalize rd (6 + n + nodes n f c u + (2 * (k : Int) + 1)) b l w = s2 at hsz2
              by_cases h6 : s2.2 = 0
              · have hcr := crc_r (toInts s2.1)
                have htl := toInts_size s2.1
                rw [bnf h6, cond_false, if_neg (fun hh => hh h6), w64 (x := g3 L) (by omega) (by omega), f33_1, crcP (by omega), wu64 (x := (k : Int)) (by omega) (by omega), wu64 (x := g3 L) (by omega) (by omega), wu64 (x := crc _) (by omega) (by omega), h3, h4, beq_self_eq_true, beq_self_eq_true, beq_self_eq_true, Bool.true_and, Bool.true_and, Bool.true_and]
                by_cases h7 : crc (toInts s2.1) = g4 L
                · rw [show (crc (toInts s2.1) == g4 L) = true by simp [h7], Bool.not_true, cond_false, if_neg (fun hh => hh h7), ct (by omega), w64 (x := (k : Int) + 1) (by omega) (by omega)]
                  have ih := scnL hr he h hsz (K := K) m (k + 1) fuel (out ++ [(0, (e, (g3 L, s2.1)))]) (by omega) (by omega) (by simp; omega)
                  push_cast at ih
                  exact ih
                · rw [show (crc (toInts s2.1) == g4 L) = false by simp [h7], Bool.not_false, cond_true, if_pos h7]
              · rw [bnt h6, cond_true, if_pos h6]
          · rw [bnt h4, cond_true, if_pos (.inr (.inr (.inl h4)))]
        · rw [bnt h3, cond_true, if_pos (.inr (.inl h3))]
      · rw [decide_eq_false h2, Bool.not_false, cond_true, if_pos (.inl h2)]
    · rw [bnt h1, cond_true, if_pos h1]

theorem scanP {β : Type} {q p : Nat} {n f c u e a d : Int} {b : Bool} {l : List ByteArray} {w : WL} (hr : rt n f c u) (he : U64 e) (h : DS q p a d l w) (hsz : ∀ x, (rd x b l w).1.size ≤ 100) {K : Int → EL → Option β} :
    f13_1 20000 n f c u e a b d l w K = K (scn n (6 + n + nodes n f c u) e b l w c.toNat 0 []).1 (scn n (6 + n + nodes n f c u) e b l w c.toNat 0 []).2 := by
  have hc := hr.2.2.1
  rw [f13_1, right46, decide_eq_true hr, Bool.not_true, cond_false]
  exact scnL hr he h hsz c.toNat 0 20000 [] (by omega) (by omega) (by simp)

end Go.Proofs.YtlgopekjjkdkiaaDoor.X
end

section
/- A disk with entries that are kept; a new disk; an entry more. -/
namespace Go.Proofs.YtlgopekjjkdkiaaDoor.X
open Go Go.Proofs.YtlgopekjjkdkiaaDoor.Ev
set_option linter.unusedSectionVars false
variable [FZ]
set_option linter.unusedVariables false
set_option linter.unusedSimpArgs false

/-! ### A new disk -/

theorem repL {β : Type} {m : Nat} {z : ByteArray} {v : List ByteArray} (hm : m ≤ 2000) {K : List ByteArray → Option β} : ∀ (fuel i : Nat), 1 ≤ i → i ≤ m → m - i < fuel →
    f23_1_l8 20000 v K fuel (i : Int) (List.replicate i z ++ List.replicate (m - i) ByteArray.empty) = K (List.replicate m z)
  | 0, i, _, _, h => by omega
  | fuel + 1, i, h1, h2, hf => by
    have hl : (List.replicate i z ++ List.replicate (m - i) ByteArray.empty).length = m := by simp; omega
    rw [f23_1_l8, hl]
    by_cases h : (i : Int) < (m : Int)
    · rw [ct h, ct ⟨by omega, by omega, by omega⟩, ct ⟨by omega, by omega, by omega⟩]
      have e1 : ((List.replicate i z ++ List.replicate (m - i) ByteArray.empty).drop 0).take (((i : Int) - 0).toNat) = List.replicate i z := by
        rw [List.drop_zero, show ((i : Int) - 0).toNat = i by omega]
        exact List.take_left' (by simp)
      have e2 : ((m : Int) - (i : Int)).toNat = m - i := by omega
      rw [e1, e2, List.length_replicate, show 0 + (i : Int).toNat = i by omega]
      have e3 : (List.replicate i z ++ List.replicate (m - i) ByteArray.empty).take i = List.replicate i z := List.take_left' (by simp)
      have e4 : (List.replicate i z ++ List.replicate (m - i) ByteArray.empty).drop (i + min i (m - i)) = List.replicate (m - (i + min i (m - i))) ByteArray.empty := by
        rw [← List.drop_drop, List.drop_left' (by simp), List.drop_replicate]
        congr 1; omega
      rw [e3, e4, List.take_replicate, ← List.append_assoc, List.replicate_append_replicate, w64 (by omega) (by omega)]
      have ih := repL hm (z := z) (v := v) (K := K) fuel (i + min i (m - i)) (by omega) (by omega) (by omega)
      rw [Nat.min_comm (m - i) i]
      push_cast at ih ⊢
      exact ih
    · have : m = i := by omega
      subst this
      rw [cf h]
      simp

theorem newP {β : Type} {m : Nat} (h1 : 1 ≤ m) (h2 : m ≤ 1200) {K0 : Option β} {K1 : List ByteArray → WL → Option β} : f7_1 20000 (m : Int) K0 K1 = K1 (List.replicate m Z64) [] := by
  have hz : ∀ K : ByteArray → Option β, f24_1 20000 K = K Z64 := fun K => by kernel_rfl
  have hmul : ∀ K : Int → Int → Option β, f42_1 20000 (IntKind.u64.wrap (([Z64].length : Nat) : Int)) (IntKind.u64.wrap (m : Int)) K = K 0 (m : Int) := by
    intro K
    rw [f42_1, f62_1, wu64 (x := (m : Int)) (by omega) (by omega)]
    have e1 : IntKind.u64.wrap (([Z64].length : Nat) : Int) = 1 := rfl
    rw [e1]
    have s1 : ishr .u64 1 32 = 0 := by decide
    have e : (2 : Int) ^ (min (32 : Int).toNat IntKind.u64.bits) = 4294967296 := by decide
    have s2 : ishr .u64 (m : Int) 32 = 0 := by rw [ishr, e, Int.fdiv_eq_ediv_of_nonneg _ (by omega)]; omega
    have a1 : iand .u64 1 4294967295 = 1 := by decide
    have a2 : iand .u64 (m : Int) 4294967295 = (m : Int) := by
      have := and64 (A := m) (B := 4294967295) (by omega) (by decide)
      rw [show (4294967295 : Int) = ((4294967295 : Nat) : Int) from rfl, this]
      have : m &&& (2 ^ 32 - 1) = m % 2 ^ 32 := Nat.and_two_pow_sub_one_eq_mod m 32
      rw [show (4294967295 : Nat) = 2 ^ 32 - 1 from rfl, this, Nat.mod_eq_of_lt (by omega)]
    have a0 : iand .u64 0 4294967295 = 0 := by decide
    have z0 : ishr .u64 0 32 = 0 := by decide
    simp only [s1, s2, a1, a2, Int.zero_mul, Int.mul_zero, Int.one_mul, wu64 (x := (0 : Int)) (by omega) (by omega), wu64 (x := (m : Int)) (by omega) (by omega), z0, a0, Int.zero_add, Int.add_zero]
  rw [f7_1, cf (by omega), cf (by omega), hz, f23_1, cf (by omega), hmul, cf (by omega), cf (by omega), w64 (x := (m : Int)) (by omega) (by omega), ct ⟨by omega, by omega, by omega, by omega⟩]
  have hs : (List.replicate (m : Int).toNat ByteArray.empty).take 0 ++ ([Z64].take (List.replicate (m : Int).toNat ByteArray.empty).length ++ (List.replicate (m : Int).toNat ByteArray.empty).drop (0 + min [Z64].length (List.replicate (m : Int).toNat ByteArray.empty).length)) = List.replicate 1 Z64 ++ List.replicate (m - 1) ByteArray.empty := by
    rw [List.take_zero, List.nil_append, List.length_replicate, show (m : Int).toNat = m by omega, List.take_of_length_le (by simp; omega), List.drop_replicate]
    show [Z64] ++ List.replicate (m - (0 + min 1 m)) ByteArray.empty = _
    rw [show 0 + min 1 m = 1 by omega]; rfl
  rw [hs, List.length_replicate, show (m : Int).toNat = m by omega, show ((min [Z64].length m : Nat) : Int) = ((1 : Nat) : Int) by simp; omega]
  exact repL (by omega) 20000 1 (by omega) (by omega) (by omega)

/-! ### Lists of entries -/

theorem entL {β : Type} {E : EL} (hl : E.length ≤ 10000) {K0 K1 : Option β} : ∀ (r : EL) (i k : Nat), E.drop i = r → i ≤ E.length → r.length < k → f14_1_l4 20000 E E K0 K1 k (i : Int) = K1
  | [], i, 0, _, _, hk => by simp at hk
  | _ :: _, i, 0, _, _, hk => by simp at hk
  | [], i, k + 1, hd, hi, _ => by
    have := len_of_drop_nil hd hi
    rw [f14_1_l4, cf (by omega)]
  | p :: r, i, k + 1, hd, hi, hk => by
    obtain ⟨h1, h2, h3⟩ := getD_of_drop (d := ((0, (0, (0, ByteArray.empty))) : Int × (Int × (Int × ByteArray)))) hd
    rw [f14_1_l4, ct (by omega), ct (by omega), ct (by omega), ct (by omega), ct (by omega), show ∀ p : Int × (Int × (Int × ByteArray)), (!(p.1 == p.1 && (p.2.1 == p.2.1 && (p.2.2.1 == p.2.2.1 && p.2.2.2.toList == p.2.2.2.toList)))) = false from fun p => by simp, cond_false, w64 (by omega) (by omega)]
    exact entL hl r (i + 1) k h3 (by omega) (by simp at hk; omega)
theorem entP {β : Type} {E : EL} (hl : E.length ≤ 10000) {K : Bool → Option β} : f14_1 20000 E E K = K true := by
  rw [f14_1, bnf rfl, cond_false]
  exact entL hl E 0 20000 rfl (by omega) (by omega)

/-! ### A disk on which m entries are kept -/

noncomputable def cZ : Int := crc (toInts Z64)
theorem cZ_r : U32 cZ := crc_r _
theorem Z64_size : Z64.size = 64 := by rw [D_size, Z64_D]; simp

structure KI (n c B e : Int) (m : Nat) (E : EL) (l : List ByteArray) : Prop where
  len : (l.length : Int) = B + 2 * c
  el : E.length = m
  mc : (m : Int) ≤ c
  ent : ∀ j : Nat, j < m → ∃ i : Int, 0 ≤ i ∧ i < n ∧ E.drop j = (0, (e, (i, Z64))) :: E.drop (j + 1) ∧ l.getD (B + 2 * (j : Int)).toNat ByteArray.empty = hdB e j i cZ
  oth : ∀ x : Nat, x < l.length → (∀ j : Nat, j < m → (x : Int) ≠ B + 2 * (j : Int)) → l.getD x ByteArray.empty = Z64

theorem rd_nil' {x : Int} {l : List ByteArray} (hx : 0 ≤ x ∧ x < (l.length : Int)) : rd x false l [] = (l.getD x.toNat ByteArray.empty, 0) := by
  rw [rd, if_neg (by simp), if_pos hx, kp, if_pos hx]; rfl

theorem rd_sz {l : List ByteArray} (h : ∀ x : Nat, x < l.length → (l.getD x ByteArray.empty).size ≤ 100) : ∀ x, (rd x false l []).1.size ≤ 100 := by
  intro x
  by_cases hx : 0 ≤ x ∧ x < (l.length : Int)
  · rw [rd_nil' hx]; exact h _ (by omega)
  · rw [rd, if_neg (by simp), if_neg hx]
    show ByteArray.empty.size ≤ 100; decide

section
variable {n c B e : Int} {m : Nat} {E : EL} {l : List ByteArray}

theorem KI.sz (h : KI n c B e m E l) : ∀ x : Nat, x < l.length → (l.getD x ByteArray.empty).size ≤ 100 := by
  intro x hx
  by_cases hj : ∃ j : Nat, j < m ∧ (x : Int) = B + 2 * (j : Int)
  · obtain ⟨j, h1, h2⟩ := hj
    obtain ⟨i, _, _, _, h5⟩ := h.ent j h1
    have : x = (B + 2 * (j : Int)).toNat := by omega
    rw [this, h5, hdB_size]; omega
  · rw [h.oth x hx (fun j h1 h2 => hj ⟨j, h1, h2⟩), Z64_size]; omega

theorem KI.scn_eq (h : KI n c B e m E l) (hB : 0 ≤ B) (he : U64 e) (hn : n ≤ 128) (hc : c ≤ 64) : ∀ (d j k : Nat), d + j = m → ((k + j : Nat) : Int) = c → ∀ out, out ++ E.drop j = E → scn n B e false l [] k j out = (0, E)
  | 0, j, 0, hd, hk, out, ho => by
    have : E.drop j = [] := List.drop_eq_nil_of_le (by rw [h.el]; omega)
    rw [this, List.append_nil] at ho
    rw [scn, ho]
  | 0, j, k + 1, hd, hk, out, ho => by
    have hl := h.len
    have : E.drop j = [] := List.drop_eq_nil_of_le (by rw [h.el]; omega)
    rw [this, List.append_nil] at ho
    have hx : 0 ≤ B + 2 * (j : Int) ∧ B + 2 * (j : Int) < (l.length : Int) := by omega
    have hz : l.getD (B + 2 * (j : Int)).toNat ByteArray.empty = Z64 := h.oth _ (by omega) (fun j' h1 h2 => by omega)
    rw [scn, rd_nil' hx, hz]
    show (if (0 : Int) ≠ 0 then _ else if ¬ isH Z64 ∨ _ then _ else _) = _
    rw [if_neg (by simp), if_pos (.inl fun hh => opn_zero 8 hh.1), ho]
  | d + 1, j, 0, hd, hk, out, ho => by have := h.mc; omega
  | d + 1, j, k + 1, hd, hk, out, ho => by
    have hl := h.len
    obtain ⟨i, h1, h2, h3, h4⟩ := h.ent j (by omega)
    have hx : 0 ≤ B + 2 * (j : Int) ∧ B + 2 * (j : Int) < (l.length : Int) := by omega
    have hx2 : 0 ≤ B + (2 * (j : Int) + 1) ∧ B + (2 * (j : Int) + 1) < (l.length : Int) := by omega
    have hz : l.getD (B + (2 * (j : Int) + 1)).toNat ByteArray.empty = Z64 := h.oth _ (by omega) (fun j' h1 h2 => by omega)
    have ho8 : opn 8 (hdB e j i cZ) = (ofInts (hdL e j i cZ), 0) := mkB_open (by omega) (by omega) (by rw [oi_size, hdL_len]; omega)
    have hH : isH (hdB e j i cZ) := by
      unfold isH
      rw [ho8]
      exact ⟨rfl, by show (ofInts (hdL e j i cZ)).size = 20; rw [oi_size, hdL_len]⟩
    obtain ⟨t1, t2, t3, t4⟩ := g_hd (e := e) (k := j) (i := i) (s := cZ) he (by omega) (by omega) cZ_r
    have hti : toInts (opn 8 (hdB e j i cZ)).1 = hdL e j i cZ := by rw [ho8]; exact toInts_ofInts (hdL_r _ _ _ _)
    rw [scn, rd_nil' hx, h4, rd_nil' hx2, hz]
    show (if (0 : Int) ≠ 0 then _ else if ¬ isH (hdB e j i cZ) ∨ g1 (toInts (opn 8 (hdB e j i cZ)).1) ≠ e ∨ g2 (toInts (opn 8 (hdB e j i cZ)).1) ≠ (j : Int) ∨ g3 (toInts (opn 8 (hdB e j i cZ)).1) ≥ n then _ else if (0 : Int) ≠ 0 then _ else if cZ ≠ g4 (toInts (opn 8 (hdB e j i cZ)).1) then _ else scn n B e false l [] k (j + 1) (out ++ [(0, (e, (g3 (toInts (opn 8 (hdB e j i cZ)).1), Z64)))])) = _
    rw [hti, t1, t2, t3, t4, if_neg (by simp), if_neg (fun hh => by
      rcases hh with hh | hh | hh | hh
      · exact hh hH
      · exact hh rfl
      · exact hh rfl
      · omega), if_neg (by simp), if_neg (fun hh => hh rfl)]
    exact KI.scn_eq h hB he hn hc d (j + 1) k (by omega) (by omega) _ (by rw [List.append_assoc]; rw [h3] at ho; exact ho)

/-- One entry more. -/
theorem KI.more (h : KI n c B e m E l) (hB : 0 ≤ B) (hm : (m : Int) < c) {i : Int} (hi : 0 ≤ i ∧ i < n) : KI n c B e (m + 1) (E ++ [(0, (e, (i, Z64)))]) (put1 l (B + 2 * (m : Int), hdB e m i cZ)) := by
  have hl := h.len
  refine ⟨by rw [put1_len]; exact hl, by simp [h.el], by omega, fun j hj => ?_, fun x hx hno => ?_⟩
  · rcases Nat.lt_or_ge j m with h1 | h1
    · obtain ⟨i', q1, q2, q3, q4⟩ := h.ent j h1
      refine ⟨i', q1, q2, ?_, ?_⟩
      · rw [List.drop_append_of_le_length (by rw [h.el]; omega), List.drop_append_of_le_length (by rw [h.el]; omega), q3]; rfl
      · rw [put1]
        show (l.set (B + 2 * (m : Int)).toNat _).getD _ _ = _
        rw [List.getD_eq_getElem?_getD, List.getElem?_set_ne (by omega), ← List.getD_eq_getElem?_getD, q4]
    · have e : j = m := by omega
      subst e
      refine ⟨i, hi.1, hi.2, ?_, ?_⟩
      · have el := h.el
        rw [List.drop_left' el, List.drop_eq_nil_of_le (by simp; omega)]
      · rw [put1]
        show (l.set (B + 2 * (j : Int)).toNat _).getD _ _ = _
        rw [List.getD_eq_getElem?_getD, List.getElem?_set_self (by omega)]; rfl
  · rw [put1_len] at hx
    rw [put1]
    show (l.set (B + 2 * (m : Int)).toNat _).getD _ _ = _
    rw [List.getD_eq_getElem?_getD, List.getElem?_set_ne (by have := hno m (by omega); omega), ← List.getD_eq_getElem?_getD]
    exact h.oth x hx fun j hj => hno j (by omega)

/-- Zeros in the place of zeros. -/
theorem put_same {x : Int} {t : ByteArray} (hx : 0 ≤ x ∧ x < (l.length : Int)) (ht : l.getD x.toNat ByteArray.empty = t) : put1 l (x, t) = l := by
  rw [put1]
  show l.set x.toNat t = l
  have hlt : x.toNat < l.length := by omega
  have e : l[x.toNat] = t := by
    rw [List.getD_eq_getElem?_getD, List.getElem?_eq_getElem hlt] at ht
    exact ht
  rw [← e]
  exact List.set_getElem_self hlt

theorem svS_at {x t a d} (hx : 0 ≤ x ∧ x < (l.length : Int)) (ht : t.size = 64) :
    (a = -1 → svS x t a false d l [] = (0, -1, false, d + 1 + 1, put1 l (x, t), [])) ∧ (a = 0 → svS x t a false d l [] = (5, -1, true, d, l, [])) ∧
    (a = 1 → svS x t a false d l [] = (5, -1, true, d + 1, l, [(x, t)])) ∧ (2 ≤ a → svS x t a false d l [] = (0, a - 1 - 1, false, d + 1 + 1, put1 l (x, t), [])) := by
  have hw : ∀ a, a ≠ 0 → wS x t a false d l [] = (0, dec a, false, d + 1, [(x, t)]) := fun a ha => by
    rw [wS, if_neg (by simp), if_neg (fun hh => hh hx), if_neg (fun hh => hh ht), if_neg ha]; rfl
  refine ⟨?_, ?_, ?_, ?_⟩
  · rintro rfl
    rw [svS, hw _ (by omega), if_neg (by simp), fS, if_neg (by simp)]; rfl
  · rintro rfl
    have : wS x t 0 false d l [] = (5, -1, true, d, []) := by rw [wS, if_neg (by simp), if_neg (fun hh => hh hx), if_neg (fun hh => hh ht), if_pos rfl]
    rw [svS, this, if_pos (by simp)]
  · rintro rfl
    rw [svS, hw _ (by omega), if_neg (by simp), fS, if_neg (by simp)]; rfl
  · intro h2
    have e1 : dec a = a - 1 := by rw [dec, if_neg (by omega)]
    have e2 : dec (a - 1) = a - 1 - 1 := by rw [dec, if_neg (by omega)]
    rw [svS, hw _ (by omega), if_neg (by simp)]
    show fS (dec a) false (d + 1) l [(x, t)] = _
    rw [e1, fS, if_neg (by simp), if_neg (by omega), e2]; rfl
end

end Go.Proofs.YtlgopekjjkdkiaaDoor.X
end

section
/- Trees' shapes: parents and children over the list of the levels; any seat. -/
namespace Go.Proofs.YtlgopekjjkdkiaaDoor.X
open Go Go.Proofs.YtlgopekjjkdkiaaDoor.Ev
set_option linter.unusedSectionVars false
variable [FZ]
set_option linter.unusedVariables false
set_option linter.unusedSimpArgs false

/-- Children of a node, by the levels from a number on. -/
def kids (f : Int) (from_ a q : Int) : Nat → List Int
  | 0 => []
  | k + 1 => kids f from_ a q k ++ (if q * f + k < a then [from_ + (q * f + k)] else [])

def chl (f : Int) (node : Int) : Int → List Int → List Int
  | s, a :: b :: r => if s + a ≤ node ∧ node < s + a + b then kids f s a (node - (s + a)) f.toNat else chl f node (s + a) (b :: r)
  | _, _ => []

def par (f : Int) (node : Int) : Int → List Int → Int
  | s, a :: b :: r => if s ≤ node ∧ node < s + a then s + a + (node - s) / f else par f node (s + a) (b :: r)
  | _, _ => -1

/-- Each level is the one below it, over f, rounded up; the last one is 1. -/
def chain (f : Int) : List Int → Prop
  | a :: b :: r => 1 < a ∧ b = (a + f - 1) / f ∧ chain f (b :: r)
  | [a] => a = 1
  | [] => True

theorem chain_lv {f : Int} (hf : 2 ≤ f ∧ f ≤ 4) : ∀ (k : Nat) (n : Int), 1 ≤ n → n ≤ 128 → n < k → chain f (n :: lv k n f)
  | 0, n, h1, h2, h3 => by omega
  | k + 1, n, h1, h2, h3 => by
    simp only [lv]
    by_cases hn : n > 1
    · obtain ⟨e, g1, g2⟩ := step_eq hf hn h2
      rw [if_pos hn]
      exact ⟨hn, rfl, chain_lv hf k _ g1 (by omega) (by omega)⟩
    · rw [if_neg hn]
      show n = 1
      omega

/-- The level of a node: its number in the list and the number of the first node there. -/
def lvl (node : Int) : Int → Nat → List Int → Option (Nat × Int)
  | s, i, a :: r => if s ≤ node ∧ node < s + a then some (i, s) else lvl node (s + a) (i + 1) r
  | _, _, [] => none

/-- What is at hand in the middle of a list. -/
theorem at_drop {l r : List Int} {x : Int} {i : Nat} (hd : l.drop i = x :: r) : i < l.length ∧ l.getD (0 + (i : Int).toNat) 0 = x ∧ l.drop (i + 1) = r := by
  have hlen : l.length - i = r.length + 1 := by
    have := congrArg List.length hd
    simpa using this
  have hx : l[i]? = some x := by
    have := congrArg (·[0]?) hd
    simpa using this
  refine ⟨by omega, ?_, ?_⟩
  · rw [List.getD_eq_getElem?_getD]; simp [hx]
  · rw [← List.drop_drop, hd]; rfl

/-- What is known of a level that was found. -/
theorem lvl_spec {node : Int} : ∀ (r : List Int) (s : Int) (i j : Nat) (t : Int), lvl node s i r = some (j, t) → ∃ p a q, r = p ++ a :: q ∧ j = i + p.length ∧ t = s + sumI p ∧ t ≤ node ∧ node < t + a
  | [], s, i, j, t, h => by simp [lvl] at h
  | x :: r, s, i, j, t, h => by
    simp only [lvl] at h
    split at h
    · rename_i hn
      simp only [Option.some.injEq, Prod.mk.injEq] at h
      obtain ⟨rfl, rfl⟩ := h
      exact ⟨[], x, r, rfl, by simp, by simp [sumI], hn.1, hn.2⟩
    · obtain ⟨p, a, q, h1, h2, h3, h4, h5⟩ := lvl_spec r _ _ _ _ h
      refine ⟨x :: p, a, q, by rw [h1]; rfl, by simp; omega, by simp only [sumI]; omega, h4, h5⟩

theorem lvl_none {node : Int} : ∀ (r : List Int) (s : Int) (i : Nat), (∀ y ∈ r, 1 ≤ y) → (lvl node s i r = none ↔ ¬ (s ≤ node ∧ node < s + sumI r))
  | [], s, i, h => by
    simp only [lvl, sumI, true_iff]
    omega
  | x :: r, s, i, h => by
    have h0 := h x (by simp)
    have h1 : 0 ≤ sumI r := by
      have : ∀ (l : List Int), (∀ y ∈ l, 1 ≤ y) → 0 ≤ sumI l := by
        intro l
        induction l with
        | nil => intro _; simp [sumI]
        | cons a l ih => intro hl; have := hl a (by simp); have := ih fun y hy => hl y (by simp [hy]); simp only [sumI]; omega
      exact this r fun y hy => h y (by simp [hy])
    simp only [lvl, sumI]
    split
    · simp; omega
    · rw [lvl_none r _ _ fun y hy => h y (by simp [hy])]
      omega

theorem kids_len (f from_ a q : Int) : ∀ k, (kids f from_ a q k).length ≤ k
  | 0 => by simp [kids]
  | k + 1 => by
    have := kids_len f from_ a q k
    simp only [kids, List.length_append]
    split <;> simp <;> omega

theorem mul_small {f q : Int} (hf : 2 ≤ f ∧ f ≤ 4) (hq : 0 ≤ q ∧ q < 128) : 0 ≤ q * f ∧ q * f < 512 := by
  have : f = 2 ∨ f = 3 ∨ f = 4 := by omega
  rcases this with rfl | rfl | rfl <;> omega

/-- A node's children, by the list of the levels. -/
def chs (f node : Int) (L : List Int) : List Int := match lvl node 0 0 L with
  | some (j + 1, t) => kids f (t - L.getD j 0) (L.getD j 0) (node - t) f.toNat
  | _ => []

theorem mem_getD {l : List Int} {j : Nat} (h : j < l.length) : l.getD j 0 ∈ l := by
  rw [List.getD_eq_getElem?_getD, List.getElem?_eq_getElem h]; simp

end Go.Proofs.YtlgopekjjkdkiaaDoor.X
end

section
/- Trees' shapes: document and code reckon the same children; any seat. -/
namespace Go.Proofs.YtlgopekjjkdkiaaDoor.X
open Go Go.Proofs.YtlgopekjjkdkiaaDoor.Ev
set_option linter.unusedSectionVars false
variable [FZ]
set_option linter.unusedVariables false
set_option linter.unusedSimpArgs false

theorem kids_mem0 {f s a q x : Int} : ∀ k : Nat, x ∈ kids f s a q k ↔ ∃ i : Nat, i < k ∧ q * f + i < a ∧ x = s + (q * f + i)
  | 0 => by simp [kids]
  | k + 1 => by
    simp only [kids, List.mem_append, kids_mem0 k]
    constructor
    · rintro (⟨i, h1, h2, h3⟩ | h)
      · exact ⟨i, by omega, h2, h3⟩
      · split at h
        · simp at h
          exact ⟨k, by omega, by assumption, h⟩
        · simp at h
    · rintro ⟨i, h1, h2, h3⟩
      by_cases hi : i = k
      · subst hi
        exact Or.inr (by rw [if_pos h2]; simp [h3])
      · exact Or.inl ⟨i, by omega, h2, h3⟩

theorem kids_mem {f s a q x : Int} (hf : 2 ≤ f ∧ f ≤ 4) (hq : 0 ≤ q) : x ∈ kids f s a q f.toNat ↔ s ≤ x ∧ x < s + a ∧ (x - s) / f = q := by
  rw [kids_mem0]
  have : f = 2 ∨ f = 3 ∨ f = 4 := by omega
  constructor
  · rintro ⟨i, h1, h2, h3⟩
    rcases this with rfl | rfl | rfl <;> simp at h1 <;> omega
  · rintro ⟨h1, h2, h3⟩
    refine ⟨((x - s) - q * f).toNat, ?_⟩
    rcases this with rfl | rfl | rfl <;> (simp only [Int.reduceToNat]; omega)

theorem kids_nodup {f s a q : Int} : ∀ k : Nat, (kids f s a q k).Pairwise (· < ·)
  | 0 => by simp [kids]
  | k + 1 => by
    simp only [kids]
    rw [List.pairwise_append]
    refine ⟨kids_nodup k, by split <;> simp, fun x hx y hy => ?_⟩
    obtain ⟨i, h1, h2, h3⟩ := (kids_mem0 k).1 hx
    split at hy
    · simp at hy; omega
    · simp at hy

def pos (L : List Int) : Prop := ∀ y ∈ L, 1 ≤ y ∧ y ≤ 128

theorem pos_tl {a : Int} {r : List Int} (h : pos (a :: r)) : (1 ≤ a ∧ a ≤ 128) ∧ pos r := ⟨h a (by simp), fun y hy => h y (by simp [hy])⟩

theorem sum_nn {L : List Int} (h : pos L) : 0 ≤ sumI L := by have := (sumI_ok L h).1; omega

theorem par_lt {f x : Int} : ∀ (L : List Int) (s : Int), pos L → x < s → par f x s L = -1
  | [], s, h, hx => rfl
  | [a], s, h, hx => rfl
  | a :: b :: r, s, h, hx => by
    have ha := (pos_tl h).1
    simp only [par]
    rw [if_neg (by omega)]
    exact par_lt (b :: r) _ (pos_tl h).2 (by omega)

theorem div_up {f a b y : Int} (hf : 2 ≤ f ∧ f ≤ 4) (hb : b = (a + f - 1) / f) (hy : 0 ≤ y ∧ y < a) : 0 ≤ y / f ∧ y / f < b := by
  have : f = 2 ∨ f = 3 ∨ f = 4 := by omega
  rcases this with rfl | rfl | rfl <;> omega

theorem par_bd {f x : Int} (hf : 2 ≤ f ∧ f ≤ 4) : ∀ (r : List Int) (a s : Int), pos (a :: r) → chain f (a :: r) → par f x s (a :: r) = -1 ∨ (s ≤ x ∧ x < par f x s (a :: r) ∧ s + a ≤ par f x s (a :: r) ∧ par f x s (a :: r) < s + sumI (a :: r))
  | [], a, s, h, hc => Or.inl rfl
  | b :: r, a, s, h, hc => by
    have ha := (pos_tl h).1
    have hb := (pos_tl (pos_tl h).2).1
    have hs := sum_nn (pos_tl (pos_tl h).2).2
    obtain ⟨h1, h2, h3⟩ := hc
    simp only [par]
    split
    · rename_i hx
      have := div_up (y := x - s) hf h2 (by omega)
      simp only [sumI]
      exact Or.inr (by omega)
    · rcases par_bd (x := x) hf r b (s + a) (pos_tl h).2 h3 with h4 | h4
      · exact Or.inl h4
      · refine Or.inr ?_
        simp only [sumI] at h4 ⊢
        omega

theorem mem_chl {f x k : Int} (hf : 2 ≤ f ∧ f ≤ 4) : ∀ (r : List Int) (a s : Int), pos (a :: r) → chain f (a :: r) → 0 ≤ s → 0 ≤ k → (x ∈ chl f k s (a :: r) ↔ par f x s (a :: r) = k)
  | [], a, s, h, hc, hs, hk => by simp [chl, par]; omega
  | b :: r, a, s, h, hc, hs, hk => by
    have ha := (pos_tl h).1
    have hb := (pos_tl (pos_tl h).2).1
    obtain ⟨h1, h2, h3⟩ := hc
    have hbd := par_bd (x := x) hf r b (s + a) (pos_tl h).2 h3
    have ih := mem_chl (x := x) (k := k) hf r b (s + a) (pos_tl h).2 h3 (by omega) hk
    simp only [par, chl]
    by_cases hq : s + a ≤ k ∧ k < s + a + b
    · rw [if_pos hq, kids_mem hf (by omega)]
      by_cases hx : s ≤ x ∧ x < s + a
      · rw [if_pos hx]; omega
      · rw [if_neg hx]; omega
    · rw [if_neg hq, ih]
      by_cases hx : s ≤ x ∧ x < s + a
      · rw [if_pos hx]
        have := div_up (y := x - s) hf h2 (by omega)
        have h0 := par_lt (f := f) (x := x) (b :: r) (s + a) (pos_tl h).2 (by omega)
        rw [h0]; omega
      · rw [if_neg hx]

theorem lvl_lt {x : Int} : ∀ (L : List Int) (s : Int) (i : Nat), pos L → x < s → lvl x s i L = none
  | [], _, _, _, _ => rfl
  | a :: r, s, i, h, hx => by
    have ha := (pos_tl h).1
    simp only [lvl]
    rw [if_neg (by omega)]
    exact lvl_lt r _ _ (pos_tl h).2 (by omega)

theorem chl_lvl {f x : Int} (L : List Int) : ∀ (r : List Int) (a s : Int) (i : Nat), L.drop i = a :: r →
    chl f x s (a :: r) = match lvl x (s + a) (i + 1) r with | some (j, t) => kids f (t - L.getD (j - 1) 0) (L.getD (j - 1) 0) (x - t) f.toNat | none => []
  | [], a, s, i, h => rfl
  | b :: r, a, s, i, h => by
    obtain ⟨h1, h2, h3⟩ := at_drop h
    have h4 : L.getD i 0 = a := by simpa using h2
    simp only [chl, lvl]
    by_cases hq : s + a ≤ x ∧ x < s + a + b
    · rw [if_pos hq, if_pos hq]
      simp only [Nat.add_sub_cancel, h4]
      rw [show s + a - a = s by omega]
    · rw [if_neg hq, if_neg hq]
      exact chl_lvl L r b (s + a) (i + 1) h3

theorem chs_chl {f x : Int} : ∀ L : List Int, pos L → chs f x L = chl f x 0 L
  | [], h => rfl
  | a :: r, h => by
    rw [chl_lvl (a :: r) r a 0 0 rfl]
    unfold chs
    simp only [lvl]
    by_cases hq : (0 : Int) ≤ x ∧ x < 0 + a
    · rw [if_pos hq, lvl_lt r _ _ (pos_tl h).2 (by omega)]
    · rw [if_neg hq]
      cases e : lvl x (0 + a) (0 + 1) r with
      | none => rfl
      | some v =>
        obtain ⟨j, t⟩ := v
        obtain ⟨p, a', q, e1, e2, e3, e4, e5⟩ := lvl_spec _ _ _ _ _ e
        cases j with
        | zero => omega
        | succ j => simp

theorem lev_pos (n f c u : Int) : pos (levels n f c u) := (levels_ok n f c u).2

theorem levels_not {n f c u : Int} (h : ¬ rt n f c u) : levels n f c u = [] := by simp [levels, h]
theorem levels_cons {n f c u : Int} (h : rt n f c u) : ∃ r, levels n f c u = n :: r := ⟨_, by simp [levels, h]; rfl⟩

theorem lev_chain {n f c u : Int} : rt n f c u → chain f (levels n f c u) := fun h => by
  simp only [levels, h, if_true]
  have h1 := h.1
  exact chain_lv h.2.1 20000 n h1.1 h1.2 (by omega)

/-- The parent, by the levels. -/
def prn (n f c u x : Int) : Int := par f x 0 (levels n f c u)

theorem par_lvl {f x : Int} (hf : 2 ≤ f ∧ f ≤ 4) : ∀ (r : List Int) (a s : Int) (i : Nat), pos (a :: r) → chain f (a :: r) →
    par f x s (a :: r) = match lvl x s i (a :: r) with | some (j, t) => if x = s + sumI (a :: r) - 1 then -1 else t + (a :: r).getD (j - i) 0 + (x - t) / f | none => -1
  | [], a, s, i, h, hc => by
    have hc : a = 1 := hc
    subst hc
    have e1 : sumI [1] = 1 := rfl
    simp only [par, lvl]
    by_cases hx : s ≤ x ∧ x < s + 1
    · rw [if_pos hx]
      simp only
      rw [if_pos (by omega)]
    · rw [if_neg hx]
  | b :: r, a, s, i, h, hc => by
    have ha := (pos_tl h).1
    have hb := (pos_tl (pos_tl h).2).1
    have hs := sum_nn (pos_tl (pos_tl h).2).2
    obtain ⟨h1, h2, h3⟩ := hc
    rw [par, lvl]
    by_cases hx : s ≤ x ∧ x < s + a
    · have e1 : sumI (a :: b :: r) = a + (b + sumI r) := rfl
      rw [if_pos hx, if_pos hx]
      simp only
      rw [if_neg (by omega)]
      simp
    · rw [if_neg hx, if_neg hx, par_lvl hf r b (s + a) (i + 1) (pos_tl h).2 h3]
      cases e : lvl x (s + a) (i + 1) (b :: r) with
      | none => rfl
      | some v =>
        obtain ⟨j, t⟩ := v
        obtain ⟨p, a', q, e1, e2, e3, e4, e5⟩ := lvl_spec _ _ _ _ _ e
        simp only
        have g1 : s + sumI (a :: b :: r) - 1 = s + a + sumI (b :: r) - 1 := by simp only [sumI]; omega
        have g2 : (a :: b :: r).getD (j - i) 0 = (b :: r).getD (j - (i + 1)) 0 := by
          rw [show j - i = (j - (i + 1)) + 1 by omega]
          simp
        rw [g1, g2]

theorem chs_len (f x : Int) (L : List Int) : (chs f x L).length ≤ f.toNat := by
  unfold chs
  split
  · exact kids_len _ _ _ _ _
  · simp

theorem chs_mem {n f c u x k : Int} (h : rt n f c u) (hk : 0 ≤ k) : x ∈ chs f k (levels n f c u) ↔ prn n f c u x = k := by
  obtain ⟨r, hr⟩ := levels_cons h
  have hc := lev_chain h
  have hp := lev_pos n f c u
  rw [chs_chl _ hp, prn]
  rw [hr] at hc hp ⊢
  exact mem_chl h.2.1 r n 0 hp hc (by omega) hk

theorem prn_bd {n f c u x : Int} (h : rt n f c u) : prn n f c u x = -1 ∨ (0 ≤ x ∧ x < prn n f c u x ∧ n ≤ prn n f c u x ∧ prn n f c u x < nodes n f c u) := by
  obtain ⟨r, hr⟩ := levels_cons h
  have hc := lev_chain h
  have hp := lev_pos n f c u
  unfold nodes prn
  rw [hr] at hc hp ⊢
  have := par_bd (x := x) h.2.1 r n 0 hp hc
  omega

def root (n f c u : Int) : Int := if rt n f c u then nodes n f c u - 1 else 0

end Go.Proofs.YtlgopekjjkdkiaaDoor.X
end

section
/- Trees' shapes: which nodes have children; any seat. -/
namespace Go.Proofs.YtlgopekjjkdkiaaDoor.X
open Go Go.Proofs.YtlgopekjjkdkiaaDoor.Ev
set_option linter.unusedSectionVars false
variable [FZ]
set_option linter.unusedVariables false
set_option linter.unusedSimpArgs false
theorem chl_ne {f k : Int} (hf : 2 ≤ f ∧ f ≤ 4) : ∀ (r : List Int) (a s : Int), pos (a :: r) → chain f (a :: r) → s + a ≤ k → k < s + sumI (a :: r) → chl f k s (a :: r) ≠ []
  | [], a, s, h, hc, h0, h1 => by
    have e1 : sumI [a] = a + 0 := rfl
    omega
  | b :: r, a, s, h, hc, h0, h1 => by
    obtain ⟨g1, g2, g3⟩ := hc
    have e1 : sumI (a :: b :: r) = a + sumI (b :: r) := rfl
    simp only [chl]
    by_cases hq : s + a ≤ k ∧ k < s + a + b
    · rw [if_pos hq]
      intro hn
      have hm := (kids_mem (f := f) (s := s) (a := a) (q := k - (s + a)) (x := s + (k - (s + a)) * f) hf (by omega)).2
      rw [hn] at hm
      have : f = 2 ∨ f = 3 ∨ f = 4 := by omega
      rcases this with rfl | rfl | rfl <;> exact List.not_mem_nil (hm (by omega))
    · rw [if_neg hq]
      exact chl_ne hf r b (s + a) (pos_tl h).2 g3 (by omega) (by omega)

theorem par_root {f x : Int} (hf : 2 ≤ f ∧ f ≤ 4) : ∀ (r : List Int) (a s : Int), pos (a :: r) → chain f (a :: r) → 0 ≤ s → s ≤ x → x < s + sumI (a :: r) → (par f x s (a :: r) = -1 ↔ x = s + sumI (a :: r) - 1)
  | [], a, s, h, hc, hs, h0, h1 => by
    have hc : a = 1 := hc
    subst hc
    have e1 : sumI [1] = 1 := rfl
    simp only [par, true_iff]
    omega
  | b :: r, a, s, h, hc, hs, h0, h1 => by
    have ha := (pos_tl h).1
    have hb := (pos_tl (pos_tl h).2).1
    have hn := sum_nn (pos_tl (pos_tl h).2).2
    have e1 : sumI (a :: b :: r) = a + sumI (b :: r) := rfl
    have e2 : sumI (b :: r) = b + sumI r := rfl
    obtain ⟨g1, g2, g3⟩ := hc
    simp only [par]
    by_cases hx : s ≤ x ∧ x < s + a
    · have hd := div_up (y := x - s) hf g2 (by omega)
      rw [if_pos hx]
      omega
    · rw [if_neg hx, par_root hf r b (s + a) (pos_tl h).2 g3 (by omega) (by omega) (by omega)]
      omega

theorem chs_empty {n f c u k : Int} (h : rt n f c u) (h0 : 0 ≤ k) (h1 : k < nodes n f c u) : (((chs f k (levels n f c u)).length : Int) == 0) = decide (k < n) := by
  by_cases hk : k < n
  · have : chs f k (levels n f c u) = [] := by
      apply List.eq_nil_iff_forall_not_mem.2
      intro x hx
      have := (chs_mem h h0).1 hx
      have := prn_bd (x := x) h
      omega
    simp [this, hk]
  · have : chs f k (levels n f c u) ≠ [] := by
      obtain ⟨r, hr⟩ := levels_cons h
      have hc := lev_chain h
      have hp := lev_pos n f c u
      unfold nodes at h1
      rw [chs_chl _ hp]
      rw [hr] at hc hp h1 ⊢
      exact chl_ne h.2.1 r n 0 hp hc (by omega) (by omega)
    have : (chs f k (levels n f c u)).length ≠ 0 := fun h => this (List.length_eq_zero_iff.1 h)
    simp only [hk, decide_false]
    simpa using this

theorem prn_root {n f c u x : Int} (h : rt n f c u) (h0 : 0 ≤ x) (h1 : x < nodes n f c u) : prn n f c u x = -1 ↔ x = nodes n f c u - 1 := by
  obtain ⟨r, hr⟩ := levels_cons h
  have hc := lev_chain h
  have hp := lev_pos n f c u
  unfold nodes at h1 ⊢
  unfold prn
  rw [hr] at hc hp h1 ⊢
  have := par_root (x := x) h.2.1 r n 0 hp hc (by omega) h0 (by omega)
  omega

theorem chs_sorted {n f c u k : Int} : (chs f k (levels n f c u)).Pairwise (· < ·) := by
  unfold chs
  split
  · exact kids_nodup _
  · exact List.Pairwise.nil

theorem n_le {n f c u : Int} (h : rt n f c u) : n ≤ nodes n f c u := by
  obtain ⟨r, hr⟩ := levels_cons h
  have hp := lev_pos n f c u
  unfold nodes
  rw [hr] at hp ⊢
  have := sum_nn (pos_tl hp).2
  simp only [sumI]; omega

theorem sum_up {f : Int} (hf : 2 ≤ f ∧ f ≤ 4) : ∀ (r : List Int) (a : Int), pos (a :: r) → chain f (a :: r) → sumI (a :: r) ≤ 3 * a - 2
  | [], a, h, hc => by
    have hc : a = 1 := hc
    subst hc
    decide
  | b :: r, a, h, hc => by
    obtain ⟨g1, g2, g3⟩ := hc
    have e1 : sumI (a :: b :: r) = a + sumI (b :: r) := rfl
    have ih := sum_up hf r b (pos_tl h).2 g3
    have : f = 2 ∨ f = 3 ∨ f = 4 := by omega
    rcases this with rfl | rfl | rfl <;> omega

theorem nodes_up {n f c u : Int} (h : rt n f c u) : nodes n f c u ≤ 384 := by
  obtain ⟨r, hr⟩ := levels_cons h
  have hc := lev_chain h
  have hp := lev_pos n f c u
  have h1 := h.1
  unfold nodes
  rw [hr] at hc hp ⊢
  have := sum_up h.2.1 r n hp hc
  omega

end Go.Proofs.YtlgopekjjkdkiaaDoor.X
end

section
/- The law: what is kept of an entry. -/
namespace Go.Proofs.YtlgopekjjkdkiaaDoor.X
open Go Go.Proofs.YtlgopekjjkdkiaaDoor.Ev
set_option linter.unusedSectionVars false
variable [FZ]
set_option linter.unusedVariables false
set_option linter.unusedSimpArgs false

set_option maxRecDepth 100000 in
theorem known17 {β : Type} {K : Bool → Option β} : f6_1 20000 K = K true := by kernel_rfl

theorem sizeR {β : Type} {n f c u : Int} (h : rt n f c u) {K : Int → Option β} : f8_1 20000 n f c u 0 K = K (6 + n + nodes n f c u + 2 * c) := by
  have hn := h.1
  have hc := h.2.2.1
  have hno := nodes_ok n f c u
  rw [f8_1, f25_1, show ((0 : Int) == 0) = true from rfl, cond_true, right47, decide_eq_true h, Bool.not_true, cond_false, w64 (x := 2 * c) (by omega) (by omega), cf (by omega), nodes51, w64 (x := 6 + n) (by omega) (by omega), w64 (x := 6 + n + nodes n f c u) (by omega) (by omega), w64 (by omega) (by omega)]

theorem ambT {β : Type} {x : Option β} : (fun z1 : Option β => amb z1 z1) x = x := amb_self x

/-- An entry more, or none. -/
theorem cw_ok {n f c u e i d : Int} {m : Nat} {E : EL} {l : List ByteArray} (h : rt n f c u) (hk : KI n c (6 + n + nodes n f c u) e m E l) :
    (∃ code, code ≠ 0 ∧ cwS n f c u m e i (-1) false d l [] = (0, 0, ByteArray.empty, code, -1, false, d, l, [])) ∨
    (0 ≤ i ∧ i < n ∧ (m : Int) < c ∧ cwS n f c u m e i (-1) false d l [] = (e, i, Z64, 0, -1, false, d + 1 + 1 + 1 + 1, put1 l (6 + n + nodes n f c u + 2 * (m : Int), hdB e m i cZ), [])) := by
  have hn := h.1
  have hc := h.2.2.1
  have hno := nodes_ok n f c u
  have hl := hk.len
  unfold cwS
  rw [if_neg (fun hh => hh h)]
  by_cases h1 : (m : Int) < 0 ∨ (m : Int) ≥ c
  · rw [if_pos h1]; exact .inl ⟨11, by decide, rfl⟩
  · rw [if_neg h1]
    by_cases h2 : 0 ≤ i ∧ i < n
    · have hx : 0 ≤ 6 + i ∧ 6 + i < (l.length : Int) := by omega
      have hz : l.getD (6 + i).toNat ByteArray.empty = Z64 := hk.oth _ (by omega) (fun j hj => by omega)
      have hx1 : 0 ≤ 6 + n + nodes n f c u + (2 * (m : Int) + 1) ∧ 6 + n + nodes n f c u + (2 * (m : Int) + 1) < (l.length : Int) := by omega
      have hz1 : l.getD (6 + n + nodes n f c u + (2 * (m : Int) + 1)).toNat ByteArray.empty = Z64 := hk.oth _ (by omega) (fun j hj => by omega)
      have hx2 : 0 ≤ 6 + n + nodes n f c u + 2 * (m : Int) ∧ 6 + n + nodes n f c u + 2 * (m : Int) < (l.length : Int) := by omega
      refine .inr ⟨h2.1, h2.2, by omega, ?_⟩
      rw [if_neg (fun hh => hh h2), rd_nil' hx, hz]
      simp only
      rw [if_neg (by simp), (svS_at hx1 Z64_size).1 rfl, put_same hx1 hz1]
      simp only
      rw [if_neg (by simp), show crc (toInts Z64) = cZ from rfl, (svS_at hx2 (hdB_size _ _ _ _)).1 rfl]
      simp
    · rw [if_pos h2]; exact .inl ⟨3, by decide, rfl⟩

theorem DS_of {n c B e : Int} {m : Nat} {E : EL} {l : List ByteArray} (hk : KI n c B e m E l) (hl : l.length ≤ 2000) {q : Nat} (hq : q ≤ 300) {a d : Int} (ha : -1 ≤ a ∧ a ≤ 9223372036854775807) (hd : 0 ≤ d ∧ d ≤ q) : DS l.length q a d l [] :=
  ⟨hl, hq, rfl, by simp, fun p hp => (by cases hp), ha, hd⟩

theorem plays {β : Type} {n f c u e z : Int} {acts : List Int} {ks : Sl .bool} (h : rt n f c u) (ha : acts.length ≤ 60) {K0 : Int → Bool → Int → List ByteArray → WL → EL → Option β} {r0 : Option β}
    (hK : ∀ (m : Nat) (E : EL) (l : List ByteArray) (d : Int), KI n c (6 + n + nodes n f c u) e m E l → 0 ≤ d ∧ d ≤ 240 → K0 (-1) false d l [] E = r0) : ∀ (r : List Int) (i k : Nat) (m : Nat) (E : EL) (l : List ByteArray) (d : Int), acts.drop i = r → i ≤ acts.length → r.length < k →
    KI n c (6 + n + nodes n f c u) e m E l → 0 ≤ d ∧ d ≤ 4 * (i : Int) →
    f3_1_l6_2 20000 e acts n f c u z ks K0 k (i : Int) (-1) false d l [] E = r0
  | [], i, 0, _, _, _, _, _, _, hk, _, _ => by simp at hk
  | _ :: _, i, 0, _, _, _, _, _, _, hk, _, _ => by simp at hk
  | [], i, k + 1, m, E, l, d, hd, hi, _, hk, hdd => by
    have := len_of_drop_nil hd hi
    rw [f3_1_l6_2, cf (by omega)]
    exact hK m E l d hk (by omega)
  | x :: r, i, k + 1, m, E, l, d, hd, hi, hf, hk, hdd => by
    obtain ⟨h1, h2, h3⟩ := getD_of_drop (d := (0 : Int)) hd
    have hn := h.1
    have hc := h.2.2.1
    have hno := nodes_ok n f c u
    have hl := hk.len
    have hmc := hk.mc
    have hsz := rd_sz hk.sz
    have hD : DS l.length (4 * i) (-1) d l [] := by
      refine DS_of hk ?_ (by omega) (by omega) (by omega)
      have := nodes_up h
      omega
    rw [f3_1_l6_2, ct (by omega), ct (by omega), ct (by omega), ambT, h2, hk.el, cwP hD (by omega) (hsz _), app9, w64 (x := (i : Int) + 1) (by omega) (by omega)]
    rcases cw_ok (i := x) (d := d) h hk with ⟨code, q1, q2⟩ | ⟨q1, q2, q3, q4⟩
    · rw [q2]
      show cond (code == 0) _ _ = _
      rw [show (code == 0) = false by simp [q1], cond_false]
      have ih := plays (z := z) (ks := ks) h ha hK r (i + 1) k m E l d h3 (by omega) (by simp at hf; omega) hk (by omega)
      push_cast at ih
      exact ih
    · rw [q4]
      show cond ((0 : Int) == 0) _ _ = _
      rw [beq_self_eq_true, cond_true, ct (by omega)]
      have ih := plays (z := z) (ks := ks) h ha hK r (i + 1) k (m + 1) _ _ (d + 1 + 1 + 1 + 1) h3 (by omega) (by simp at hf; omega) (hk.more (by omega) q3 ⟨q1, q2⟩) (by omega)
      push_cast at ih
      exact ih


/-- Behind the crash: what Scan tells is what was kept, or an entry more. -/
theorem ends {β : Type} {n f c u e q1 d code : Int} {m : Nat} {E S : EL} {x1 x2 : Int} {x3 : ByteArray} (hm : E.length ≤ 64) (hS : (S = E ∧ code ≠ 0) ∨ (S = E ++ [(0, (x1, (x2, x3)))])) {K : Bool → Option β} (hK : f6_1 20000 (fun x => K x) = K true) :
    cond (decide (((S.length : Nat) : Int) < ((E.length : Nat) : Int))) (K false) (cond (decide (((S.length : Nat) : Int) > IntKind.i64.wrap (((E.length : Nat) : Int) + 1))) (K false) (cond (decide ((0 : Int) ≤ (0 : Int) ∧ (0 : Int) ≤ ((E.length : Nat) : Int) ∧ ((E.length : Nat) : Int) ≤ ((S.length : Nat) : Int))) (f14_1 20000 ((S.drop 0).take ((((E.length : Nat) : Int) - 0).toNat)) E (fun x86 => cond (!x86) (K false) (cond (code != 0) (f6_1 20000 (fun x87 => K x87)) (cond (((S.length : Nat) : Int) == (IntKind.i64.wrap (((E.length : Nat) : Int) + 1))) (cond (decide ((0 : Int) ≤ ((E.length : Nat) : Int) ∧ ((E.length : Nat) : Int) < ((S.length : Nat) : Int))) (cond (decide (0 + (((E.length : Nat) : Int).toNat) < S.length)) (cond ((((S.getD (0 + (((E.length : Nat) : Int).toNat)) (0, (0, (0, ByteArray.empty)))).1) == 0) && (((((S.getD (0 + (((E.length : Nat) : Int).toNat)) (0, (0, (0, ByteArray.empty)))).2).1) == x1) && ((((((S.getD (0 + (((E.length : Nat) : Int).toNat)) (0, (0, (0, ByteArray.empty)))).2).2).1) == x2) && (((((S.getD (0 + (((E.length : Nat) : Int).toNat)) (0, (0, (0, ByteArray.empty)))).2).2).2).toList == x3.toList)))) (f6_1 20000 (fun x88 => K x88)) (K false)) none) none) (K false))))) none)) = K true := by
  have e0 : (((E.length : Nat) : Int) - 0).toNat = E.length := by omega
  rw [e0, List.drop_zero, w64 (x := ((E.length : Nat) : Int) + 1) (by omega) (by omega)]
  rcases hS with ⟨rfl, hc⟩ | rfl
  · rw [cf (by omega), cf (by omega), ct ⟨by omega, by omega, by omega⟩, List.take_of_length_le (by omega), entP (by omega), Bool.not_true, cond_false, bnt hc, cond_true, hK]
  · have hl : (E ++ [((0, (x1, (x2, x3))) : Int × (Int × (Int × ByteArray)))]).length = E.length + 1 := by simp
    have ht : (E ++ [((0, (x1, (x2, x3))) : Int × (Int × (Int × ByteArray)))]).take E.length = E := List.take_left' rfl
    have hg : (E ++ [((0, (x1, (x2, x3))) : Int × (Int × (Int × ByteArray)))]).getD (0 + (((E.length : Nat) : Int).toNat)) (0, (0, (0, ByteArray.empty))) = (0, (x1, (x2, x3))) := by
      rw [show 0 + (((E.length : Nat) : Int).toNat) = E.length by omega]; simp
    rw [hl, ht, hg, cf (by omega), cf (by omega), ct ⟨by omega, by omega, by omega⟩, entP (by omega), Bool.not_true, cond_false]
    by_cases hc : code = 0
    · rw [bnf hc, cond_false, show ((((E.length + 1 : Nat) : Int)) == ((E.length : Nat) : Int) + 1) = true by simp, cond_true, ct ⟨by omega, by omega⟩, ct (by omega), show (((0 : Int) == 0) && ((x1 == x1) && ((x2 == x2) && (x3.toList == x3.toList)))) = true by simp, cond_true, hK]
    · rw [bnt hc, cond_true, hK]

theorem crB_one {ks : List Bool} {p : Int × ByteArray} {l : List ByteArray} : crB ks 0 [p] l = l ∨ crB ks 0 [p] l = put1 l p := by
  rw [crB, crB]
  cases ks.getD 0 false with
  | false => exact .inl rfl
  | true => exact .inr rfl

/-- An entry more, while a fuse burns. -/
theorem cw_fuse {n f c u e z d : Int} {m : Nat} {E : EL} {l : List ByteArray} (ks : List Bool) (h : rt n f c u) (hk : KI n c (6 + n + nodes n f c u) e m E l) (hl2 : l.length ≤ 2000) (hz : 0 ≤ z ∧ z ≤ 9223372036854775807) (hd : 0 ≤ d ∧ d ≤ 240) :
    ∃ (x1 x2 : Int) (x3 : ByteArray) (code a' d' : Int) (b' : Bool) (l' : List ByteArray) (w' : WL), cwS n f c u m e 0 z false d l [] = (x1, x2, x3, code, a', b', d', l', w') ∧ (∃ q, DS l'.length q a' d' l' w' ∧ q < 290) ∧
      ((crB ks 0 w' l' = l ∧ code ≠ 0) ∨ ((m : Int) < c ∧ crB ks 0 w' l' = put1 l (6 + n + nodes n f c u + 2 * (m : Int), hdB e m 0 cZ) ∧ (code ≠ 0 ∨ (x1 = e ∧ x2 = 0 ∧ x3 = Z64)))) ∧ 0 ≤ d' ∧ d' ≤ 280 := by
  have hn := h.1
  have hc := h.2.2.1
  have hno := nodes_ok n f c u
  have hl := hk.len
  have hD : ∀ a d, -1 ≤ a ∧ a ≤ 9223372036854775807 → 0 ≤ d ∧ d ≤ 280 → ∃ q, DS l.length q a d l [] ∧ q < 290 := fun a d ha hd => ⟨280, DS_of hk hl2 (by omega) ha hd, by omega⟩
  have hD1 : ∀ a d p, -1 ≤ a ∧ a ≤ 9223372036854775807 → 0 ≤ d ∧ d ≤ 280 → 0 ≤ p.1 ∧ p.1 < (l.length : Int) → ∃ q, DS l.length q a d l [p] ∧ q < 290 := fun a d p ha hd hp => ⟨280, ⟨hl2, by omega, rfl, by simp, fun p' hp' => (by simp at hp'; rw [hp']; exact hp), ha, hd⟩, by omega⟩
  have hD2 : ∀ a d p, -1 ≤ a ∧ a ≤ 9223372036854775807 → 0 ≤ d ∧ d ≤ 280 → ∃ q, DS (put1 l p).length q a d (put1 l p) [] ∧ q < 290 := fun a d p ha hd => ⟨280, ⟨by rw [put1_len]; exact hl2, by omega, rfl, by simp, fun p' hp' => (by cases hp'), ha, hd⟩, by omega⟩
  unfold cwS
  rw [if_neg (fun hh => hh h)]
  by_cases h1 : (m : Int) < 0 ∨ (m : Int) ≥ c
  · rw [if_pos h1]; exact ⟨0, 0, ByteArray.empty, 11, z, d, false, l, [], rfl, hD z d (by omega) (by omega), .inl ⟨rfl, by decide⟩, by omega, by omega⟩
  · rw [if_neg h1, if_neg (show ¬ ¬ ((0 : Int) ≤ 0 ∧ (0 : Int) < n) from fun hh => hh (by omega))]
    have hx : 0 ≤ (6 : Int) + 0 ∧ (6 : Int) + 0 < (l.length : Int) := by omega
    have hz0 : l.getD ((6 : Int) + 0).toNat ByteArray.empty = Z64 := hk.oth _ (by omega) (fun j hj => by omega)
    have hx1 : 0 ≤ 6 + n + nodes n f c u + (2 * (m : Int) + 1) ∧ 6 + n + nodes n f c u + (2 * (m : Int) + 1) < (l.length : Int) := by omega
    have hz1 : l.getD (6 + n + nodes n f c u + (2 * (m : Int) + 1)).toNat ByteArray.empty = Z64 := hk.oth _ (by omega) (fun j hj => by omega)
    have hx2 : 0 ≤ 6 + n + nodes n f c u + 2 * (m : Int) ∧ 6 + n + nodes n f c u + 2 * (m : Int) < (l.length : Int) := by omega
    rw [rd_nil' hx, hz0]
    simp only
    rw [if_neg (show ¬ (0 : Int) ≠ 0 by simp), show crc (toInts Z64) = cZ from rfl]
    rcases (show z = 0 ∨ z = 1 ∨ 2 ≤ z by omega) with rfl | rfl | hz2
    · rw [(svS_at hx1 Z64_size).2.1 rfl]
      simp only
      rw [if_pos (by decide)]
      exact ⟨0, 0, ByteArray.empty, 5, -1, d, true, l, [], rfl, hD _ _ (by omega) (by omega), .inl ⟨rfl, by decide⟩, by omega, by omega⟩
    · rw [(svS_at hx1 Z64_size).2.2.1 rfl]
      simp only
      rw [if_pos (by decide)]
      refine ⟨0, 0, ByteArray.empty, 5, -1, d + 1, true, l, [(6 + n + nodes n f c u + (2 * (m : Int) + 1), Z64)], rfl, hD1 _ _ _ (by omega) (by omega) hx1, .inl ⟨?_, by decide⟩, by omega, by omega⟩
      rcases crB_one (ks := ks) (p := (6 + n + nodes n f c u + (2 * (m : Int) + 1), Z64)) (l := l) with q | q
      · exact q
      · rw [q, put_same hx1 hz1]
    · rw [(svS_at hx1 Z64_size).2.2.2 hz2, put_same hx1 hz1]
      simp only
      rw [if_neg (show ¬ (0 : Int) ≠ 0 by simp)]
      rcases (show z - 1 - 1 = 0 ∨ z - 1 - 1 = 1 ∨ 2 ≤ z - 1 - 1 by omega) with h5 | h5 | h5
      · rw [(svS_at hx2 (hdB_size e m 0 cZ)).2.1 h5]
        simp only
        rw [if_pos (by decide)]
        exact ⟨0, 0, ByteArray.empty, 5, -1, d + 1 + 1, true, l, [], rfl, hD _ _ (by omega) (by omega), .inl ⟨rfl, by decide⟩, by omega, by omega⟩
      · rw [(svS_at hx2 (hdB_size e m 0 cZ)).2.2.1 h5]
        simp only
        rw [if_pos (by decide)]
        refine ⟨0, 0, ByteArray.empty, 5, -1, d + 1 + 1 + 1, true, l, [(6 + n + nodes n f c u + 2 * (m : Int), hdB e m 0 cZ)], rfl, hD1 _ _ _ (by omega) (by omega) hx2, ?_, by omega, by omega⟩
        rcases crB_one (ks := ks) (p := (6 + n + nodes n f c u + 2 * (m : Int), hdB e m 0 cZ)) (l := l) with q | q
        · exact .inl ⟨q, by decide⟩
        · exact .inr ⟨by omega, q, .inl (by decide)⟩
      · rw [(svS_at hx2 (hdB_size e m 0 cZ)).2.2.2 h5]
        simp only
        rw [if_neg (show ¬ (0 : Int) ≠ 0 by simp)]
        exact ⟨e, 0, Z64, 0, z - 1 - 1 - 1 - 1, d + 1 + 1 + 1 + 1, false, _, [], rfl, hD2 _ _ _ (by omega) (by omega), .inr ⟨by omega, rfl, .inr ⟨rfl, rfl, rfl⟩⟩, by omega, by omega⟩

theorem law_true {β : Type} (n f c u e z : Int) (ks : Sl .bool) (acts : List Int) {q1 q2 q3 q4 q5 q6 q7 : Prop} (_ : q1) (_ : q2) (_ : q3) (_ : q4) (_ : q5) (_ : q6) (he : (Lit.int .u64 e).wf = true) (hz : (Lit.int .i64 z).wf = true) (_ : q7) (r0 : β) :
    ∃ F, f3_1 F n f c u e z ks acts (fun b => cond b (some r0) none) = some r0 := by
  refine ⟨20000, ?_⟩
  have he := u64_of_wf he
  have hz := i64_of_wf hz
  rw [f3_1, right47]
  by_cases h : rt n f c u
  · have hn := h.1
    have hc := h.2.2.1
    have hno := nodes_ok n f c u
    have hup := nodes_up h
    rw [decide_eq_true h, Bool.not_true, cond_false]
    by_cases h1 : n > 20
    · rw [ct h1, known17]; rfl
    by_cases h2 : c > 20
    · rw [cf h1, ct h2, known17]; rfl
    by_cases h3 : z < 0
    · rw [cf h1, cf h2, ct h3, known17]; rfl
    by_cases h4 : ((acts.length : Nat) : Int) > 60
    · rw [cf h1, cf h2, cf h3, ct h4, known17]; rfl
    obtain ⟨M, hM⟩ : ∃ M : Nat, (M : Int) = 6 + n + nodes n f c u + 2 * c := ⟨(6 + n + nodes n f c u + 2 * c).toNat, by omega⟩
    rw [cf h1, cf h2, cf h3, cf h4, sizeR h, ← hM, newP (by omega) (by omega)]
    have hk0 : KI n c (6 + n + nodes n f c u) e 0 [] (List.replicate M Z64) := ⟨by simp; omega, rfl, by omega, fun j hj => by omega, fun x hx _ => by
      rw [List.length_replicate] at hx
      rw [List.getD_eq_getElem?_getD, List.getElem?_replicate, if_pos hx]; rfl⟩
    refine plays h (by omega) ?_ acts 0 20000 0 [] (List.replicate M Z64) 0 rfl (by omega) (by omega) hk0 (by omega)
    intro m E l d hk hd
    have hl := hk.len
    have hmc := hk.mc
    have hel := hk.el
    have hl2 : l.length ≤ 2000 := by omega
    have hsz := rd_sz hk.sz
    have hD : ∀ a d, -1 ≤ a ∧ a ≤ 9223372036854775807 → 0 ≤ d ∧ d ≤ 280 → DS l.length 280 a d l [] := fun a d ha hd => DS_of hk hl2 (by omega) ha hd
    have hkn : ∀ K : Bool → Option β, f6_1 20000 (fun x => K x) = K true := fun K => known17
    rw [f10_1, if_neg (by omega), cwP (hD z d (by omega) (by omega)) (by omega) (hsz _), app9, hel]
    -- what may come: the disk as it is, or with the entry; and the answer
    have fin : ∀ (x1 x2 : Int) (x3 : ByteArray) (code a d' : Int) (b : Bool) (l' : List ByteArray) (w' : WL), (∃ q, DS l'.length q a d' l' w' ∧ q < 290) →
        ((crB ks.dat 0 w' l' = l ∧ code ≠ 0) ∨ ((m : Int) < c ∧ crB ks.dat 0 w' l' = put1 l (6 + n + nodes n f c u + 2 * (m : Int), hdB e m 0 cZ) ∧ (code ≠ 0 ∨ (x1 = e ∧ x2 = 0 ∧ x3 = Z64)))) → 0 ≤ d' ∧ d' ≤ 280 →
        f11_1 20000 a b d' l' w' ks.dat (fun x78 x79 => f12_1 20000 (-1) true d' x78 x79 (fun x80 x81 x82 x83 => f13_1 20000 n f c u e x81 x82 d' x78 x83 (fun x84 x85 => cond (x84 != 0) (cond false (some r0) none) (cond (decide (((x85.length : Nat) : Int) < ((E.length : Nat) : Int))) (cond false (some r0) none) (cond (decide (((x85.length : Nat) : Int) > IntKind.i64.wrap (((E.length : Nat) : Int) + 1))) (cond false (some r0) none) (cond (decide ((0 : Int) ≤ (0 : Int) ∧ (0 : Int) ≤ ((E.length : Nat) : Int) ∧ ((E.length : Nat) : Int) ≤ ((x85.length : Nat) : Int))) (f14_1 20000 ((x85.drop 0).take ((((E.length : Nat) : Int) - 0).toNat)) E (fun x86 => cond (!x86) (cond false (some r0) none) (cond (code != 0) (f6_1 20000 (fun x87 => cond x87 (some r0) none)) (cond (((x85.length : Nat) : Int) == (IntKind.i64.wrap (((E.length : Nat) : Int) + 1))) (cond (decide ((0 : Int) ≤ ((E.length : Nat) : Int) ∧ ((E.length : Nat) : Int) < ((x85.length : Nat) : Int))) (cond (decide (0 + (((E.length : Nat) : Int).toNat) < x85.length)) (cond ((((x85.getD (0 + (((E.length : Nat) : Int).toNat)) (0, (0, (0, ByteArray.empty)))).1) == 0) && (((((x85.getD (0 + (((E.length : Nat) : Int).toNat)) (0, (0, (0, ByteArray.empty)))).2).1) == x1) && ((((((x85.getD (0 + (((E.length : Nat) : Int).toNat)) (0, (0, (0, ByteArray.empty)))).2).2).1) == x2) && (((((x85.getD (0 + (((E.length : Nat) : Int).toNat)) (0, (0, (0, ByteArray.empty)))).2).2).2).toList == x3.toList)))) (f6_1 20000 (fun x88 => cond x88 (some r0) none)) (cond false (some r0) none)) none) none) (cond false (some r0) none))))) none)))))) = some r0 := by
      intro x1 x2 x3 code a d' b l' w' hDS hor hd'
      obtain ⟨q, hDS, hq⟩ := hDS
      rw [crashP (by omega) hDS, f12_1, Bool.not_true, cond_false]
      rcases hor with ⟨h5, h6⟩ | ⟨h7, h5, h6⟩
      · rw [h5, scanP h he (hD (-1) d' (by omega) hd') hsz, hk.scn_eq (by omega) he (by omega) (by omega) m 0 c.toNat (by omega) (by omega) [] rfl]
        show cond ((0 : Int) != 0) _ _ = _
        rw [bnf rfl, cond_false]
        exact ends (n := n) (f := f) (c := c) (u := u) (e := e) (q1 := 0) (d := 0) (m := 0) (E := E) (S := E) (x1 := x1) (x2 := x2) (x3 := x3) (code := code) (by omega) (.inl ⟨rfl, h6⟩) (K := fun b => cond b (some r0) none) (hkn _)
      · have hk2 := hk.more (i := 0) (by omega) h7 (by omega)
        have hD2 : DS (put1 l (6 + n + nodes n f c u + 2 * (m : Int), hdB e m 0 cZ)).length 280 (-1) d' (put1 l (6 + n + nodes n f c u + 2 * (m : Int), hdB e m 0 cZ)) [] := DS_of hk2 (by rw [put1_len]; exact hl2) (by omega) (by omega) hd'
        rw [h5, scanP h he hD2 (rd_sz hk2.sz), hk2.scn_eq (by omega) he (by omega) (by omega) (m + 1) 0 c.toNat (by omega) (by omega) [] rfl]
        show cond ((0 : Int) != 0) _ _ = _
        rw [bnf rfl, cond_false]
        by_cases hc0 : code = 0
        · rcases h6 with h6 | ⟨rfl, rfl, rfl⟩
          · exact (h6 hc0).elim
          · exact ends (n := n) (f := f) (c := c) (u := u) (e := x1) (q1 := 0) (d := 0) (m := 0) (E := E) (S := E ++ [(0, (x1, (0, Z64)))]) (x1 := x1) (x2 := 0) (x3 := Z64) (code := code) (by omega) (.inr rfl) (K := fun b => cond b (some r0) none) (hkn _)
        · have := ends (β := β) (n := n) (f := f) (c := c) (u := u) (e := e) (q1 := 0) (d := 0) (m := 0) (E := E) (S := E ++ [(0, (e, (0, Z64)))]) (x1 := e) (x2 := 0) (x3 := Z64) (code := code) (by omega) (.inr rfl) (K := fun b => cond b (some r0) none) (hkn _)
          rw [bnt hc0] at this ⊢
          exact this
    obtain ⟨x1, x2, x3, code, a', d', b', l', w', e1, e2, e3, e4, e5⟩ := cw_fuse (d := d) ks.dat h hk hl2 ⟨by omega, hz.2⟩ (by omega)
    rw [e1]
    rw [hel] at fin
    have := fin x1 x2 x3 code a' d' b' l' w' e2 e3 ⟨e4, e5⟩
    exact this
  · rw [decide_eq_false h, Bool.not_false, cond_true, known17]; rfl

end Go.Proofs.YtlgopekjjkdkiaaDoor.X
end
