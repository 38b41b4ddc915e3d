/- Merged: GeoA, GeoQ, CowA, CowB, CowC, EvF217, EvF201, EvF165, GeoB, EvF106, EvF170, GeoC, GeoD, CowD, CowE, DiskW, PlayA, PureCowPlays. -/
import Derived.Test.YtlgopekjjkdkiaaGreatDoorMCowPlaysCard6
import Derived.Test.YtlgopekjjkdkiaaGreatDoorMCowPlaysCard4
import Derived.Test.YtlgopekjjkdkiaaGreatDoorMCowPlaysCard3
import Derived.Test.YtlgopekjjkdkiaaGreatDoorMCowPlaysCard5
import Derived.Test.YtlgopekjjkdkiaaGreatDoorProg
import Derived.KernelRfl
section
/- Trees' shapes: levels and numbers of nodes; any seat. -/
namespace Go.Proofs.YtlgopekjjkdkiaaGreatDoor.X
open Go Go.Proofs.YtlgopekjjkdkiaaGreatDoor.Ev
set_option linter.unusedSectionVars false
variable [FZ]
set_option linter.unusedVariables false
set_option linter.unusedSimpArgs false

def lv : Nat → Int → Int → List Int
  | 0, _, _ => []
  | k + 1, n, f => if n > 1 then ((n + f - 1) / f) :: lv k ((n + f - 1) / f) f else []

theorem step_eq {n f : Int} (hf : 2 ≤ f ∧ f ≤ 4) (h1 : 1 < n) (h2 : n ≤ 128) :
    IntKind.i64.wrap ((IntKind.i64.wrap ((IntKind.i64.wrap (n + f)) - 1)).tdiv f) = (n + f - 1) / f ∧ 1 ≤ (n + f - 1) / f ∧ (n + f - 1) / f < n := by
  rw [w64 (x := n + f) (by omega) (by omega), w64 (x := n + f - 1) (by omega) (by omega), Int.tdiv_eq_ediv_of_nonneg (by omega)]
  have : f = 2 ∨ f = 3 ∨ f = 4 := by omega
  rcases this with rfl | rfl | rfl
  · rw [w64 (by omega) (by omega)]; omega
  · rw [w64 (by omega) (by omega)]; omega
  · rw [w64 (by omega) (by omega)]; omega

theorem lev48 {β : Type} {F : Nat} {x f c u : Int} (hf : 2 ≤ f ∧ f ≤ 4) {K : List Int → Option β} : ∀ (k : Nat) (n : Int) (acc : List Int), 1 ≤ n → n ≤ 128 → n < k → (acc.length : Int) + n ≤ 2000 →
    f164_1_l5 F x f c u K k n acc = K (acc ++ lv k n f)
  | 0, n, acc, h1, h2, h3, h4 => by omega
  | k + 1, n, acc, h1, h2, h3, h4 => by
    simp only [f164_1_l5, lv]
    by_cases hn : n > 1
    · obtain ⟨e, g1, g2⟩ := step_eq hf hn h2
      rw [e]
      have h0 : ¬ f = 0 := by omega
      have hl : (acc.length + 1) * 8 ≤ 70368744177664 := by omega
      simp only [hn, h0, hl, decide_true, decide_false, cond_true, cond_false, if_true]
      rw [lev48 hf k _ _ g1 (by omega) (by omega) (by simp; omega)]
      simp
    · simp [hn]

theorem lev49 {β : Type} {F : Nat} {x f c u : Int} (hf : 2 ≤ f ∧ f ≤ 4) {K : List Int → Option β} : ∀ (k : Nat) (n : Int) (acc : List Int), 1 ≤ n → n ≤ 128 → n < k → (acc.length : Int) + n ≤ 2000 →
    f98_1_l5 F x f c u K k n acc = K (acc ++ lv k n f)
  | 0, n, acc, h1, h2, h3, h4 => by omega
  | k + 1, n, acc, h1, h2, h3, h4 => by
    simp only [f98_1_l5, lv]
    by_cases hn : n > 1
    · obtain ⟨e, g1, g2⟩ := step_eq hf hn h2
      rw [e]
      have h0 : ¬ f = 0 := by omega
      have hl : (acc.length + 1) * 8 ≤ 70368744177664 := by omega
      simp only [hn, h0, hl, decide_true, decide_false, cond_true, cond_false, if_true]
      rw [lev49 hf k _ _ g1 (by omega) (by omega) (by simp; omega)]
      simp
    · simp [hn]

theorem lv_ok {f : Int} (hf : 2 ≤ f ∧ f ≤ 4) : ∀ (k : Nat) (n : Int), 1 ≤ n → n ≤ 128 → ((lv k n f).length : Int) < n ∧ ∀ y ∈ lv k n f, 1 ≤ y ∧ y ≤ 128
  | 0, n, h1, h2 => by simp [lv]; omega
  | k + 1, n, h1, h2 => by
    simp only [lv]
    by_cases hn : n > 1
    · obtain ⟨e, g1, g2⟩ := step_eq hf hn h2
      obtain ⟨q1, q2⟩ := lv_ok hf k _ g1 (by omega)
      rw [if_pos hn]
      refine ⟨by simp; omega, fun y hy => ?_⟩
      rcases List.mem_cons.1 hy with rfl | hy
      · omega
      · exact q2 y hy
    · rw [if_neg hn]; simp; omega

/-- The geometry can be. -/
def rt (n f c u : Int) : Prop := (1 ≤ n ∧ n ≤ 128) ∧ (2 ≤ f ∧ f ≤ 4) ∧ (0 ≤ c ∧ c ≤ 64) ∧ (1 ≤ u ∧ u ≤ 320)
instance (n f c u : Int) : Decidable (rt n f c u) := by unfold rt; infer_instance

theorem cnd {β : Type} {p q : Prop} [Decidable p] [Decidable q] {K : Bool → Option β} : cond (decide p) (K (decide q)) (K false) = K (decide (p ∧ q)) := by
  by_cases h : p <;> simp [h]

theorem within87 {β : Type} {F : Nat} {a b c : Int} {K : Bool → Option β} : f144_1 F a b c K = K (decide (a ≥ b ∧ a ≤ c)) := by
  simp only [f144_1, cnd]

theorem right46 {β : Type} {F : Nat} {n f c u : Int} {K : Bool → Option β} : f90_1 F n f c u K = K (decide (rt n f c u)) := by
  simp only [f90_1, within87, cnd]
  congr 1

theorem right47 {β : Type} {F : Nat} {n f c u : Int} {K : Bool → Option β} : f21_1 F n f c u K = K (decide (rt n f c u)) := by
  simp only [f21_1, cnd]
  congr 1
  exact decide_eq_decide.2 (by unfold rt; omega)

def levels (n f c u : Int) : List Int := if rt n f c u then n :: lv 20000 n f else []

theorem levels48 {β : Type} {n f c u : Int} {K : List Int → Option β} : f164_1 20000 n f c u K = K (levels n f c u) := by
  simp only [f164_1, right46, levels]
  by_cases h : rt n f c u
  · simp only [h, decide_true, Bool.not_true, cond_false, if_true]
    rw [lev48 h.2.1 20000 n [n] h.1.1 h.1.2 (by have := h.1.2; omega) (by have := h.1.2; simp; omega)]
    rfl
  · simp [h]

theorem levels49 {β : Type} {n f c u : Int} {K : List Int → Option β} : f98_1 20000 n f c u K = K (levels n f c u) := by
  simp only [f98_1, right47, levels]
  by_cases h : rt n f c u
  · simp only [h, decide_true, Bool.not_true, cond_false, if_true]
    rw [lev49 h.2.1 20000 n [n] h.1.1 h.1.2 (by have := h.1.2; omega) (by have := h.1.2; simp; omega)]
    rfl
  · simp [h]

theorem levels_ok (n f c u : Int) : (levels n f c u).length ≤ 128 ∧ ∀ y ∈ levels n f c u, 1 ≤ y ∧ y ≤ 128 := by
  unfold levels
  split
  · rename_i h
    obtain ⟨q1, q2⟩ := lv_ok h.2.1 20000 n h.1.1 h.1.2
    have := h.1
    refine ⟨by simp; omega, fun y hy => ?_⟩
    rcases List.mem_cons.1 hy with rfl | hy
    · omega
    · exact q2 y hy
  · simp

def sumI : List Int → Int
  | [] => 0
  | x :: r => x + sumI r

theorem sumI_ok : ∀ (l : List Int), (∀ y ∈ l, 1 ≤ y ∧ y ≤ 128) → (l.length : Int) ≤ sumI l ∧ sumI l ≤ 128 * l.length
  | [], _ => by simp [sumI]
  | x :: r, h => by
    obtain ⟨q1, q2⟩ := sumI_ok r fun y hy => h y (by simp [hy])
    have := h x (by simp)
    simp only [sumI, List.length_cons]
    omega

theorem sum50 {β : Type} {F : Nat} {K : Int → Option β} (l : List Int) (hl : l.length ≤ 128) (hy : ∀ y ∈ l, 1 ≤ y ∧ y ≤ 128) : ∀ (r : List Int) (i : Nat) (k : Nat) (s : Int), l.drop i = r → i ≤ l.length → r.length < k → 0 ≤ s → s ≤ 128 * i →
    f111_1_l3 F ((l.length : Nat) : Int) l K k s (i : Int) = K (s + sumI r)
  | [], i, k, s, hd, hi, hk, h0, h1 => by
    cases k with
    | zero => omega
    | succ k =>
      have : i = l.length := by
        have := congrArg List.length hd
        simp at this; omega
      subst this
      simp [f111_1_l3, sumI]
  | x :: r, i, k, s, hd, hi, hk, h0, h1 => by
    cases k with
    | zero => omega
    | succ k =>
      have hlen : l.length - i = r.length + 1 := by
        have := congrArg List.length hd
        simpa using this
      have hlt : i < l.length := by omega
      have hx : l[i]? = some x := by
        have := congrArg (·[0]?) hd
        simpa using this
      have hm := hy x (List.mem_of_getElem? hx)
      have hdr : l.drop (i + 1) = r := by
        rw [← List.drop_drop, hd]; rfl
      simp only [f111_1_l3]
      have e1 : decide ((i : Int) < ((l.length : Nat) : Int)) = true := by simp; omega
      have e2 : decide ((0 : Int) ≤ (i : Int) ∧ (i : Int) < ((l.length : Nat) : Int)) = true := by simp; omega
      have e3 : decide (0 + (i : Int).toNat < l.length) = true := by simp; omega
      have e4 : l.getD (0 + (i : Int).toNat) 0 = x := by
        rw [List.getD_eq_getElem?_getD]; simp [hx]
      rw [e1, e2, e3, e4, cond_true, cond_true, cond_true, w64 (by omega) (by omega), w64 (by omega) (by omega)]
      have := sum50 (F := F) (K := K) l hl hy r (i + 1) k (s + x) hdr (by omega) (by simpa using hk) (by omega) (by omega)
      rw [show ((i : Int) + 1) = ((i + 1 : Nat) : Int) by omega, this]
      congr 1
      simp only [sumI]; omega

theorem sum51 {β : Type} {F : Nat} {K : Int → Option β} (l : List Int) (hl : l.length ≤ 128) (hy : ∀ y ∈ l, 1 ≤ y ∧ y ≤ 128) : ∀ (r : List Int) (i : Nat) (k : Nat) (s : Int), l.drop i = r → i ≤ l.length → r.length < k → 0 ≤ s → s ≤ 128 * i →
    f36_1_l4 F l K k s (i : Int) = K (s + sumI r)
  | [], i, k, s, hd, hi, hk, h0, h1 => by
    cases k with
    | zero => omega
    | succ k =>
      have : i = l.length := by
        have := congrArg List.length hd
        simp at this; omega
      subst this
      simp [f36_1_l4, sumI]
  | x :: r, i, k, s, hd, hi, hk, h0, h1 => by
    cases k with
    | zero => omega
    | succ k =>
      have hlen : l.length - i = r.length + 1 := by
        have := congrArg List.length hd
        simpa using this
      have hlt : i < l.length := by omega
      have hx : l[i]? = some x := by
        have := congrArg (·[0]?) hd
        simpa using this
      have hm := hy x (List.mem_of_getElem? hx)
      have hdr : l.drop (i + 1) = r := by
        rw [← List.drop_drop, hd]; rfl
      simp only [f36_1_l4]
      have e1 : decide ((i : Int) < ((l.length : Nat) : Int)) = true := by simp; omega
      have e2 : decide ((0 : Int) ≤ (i : Int) ∧ (i : Int) < ((l.length : Nat) : Int)) = true := by simp; omega
      have e3 : decide (0 + (i : Int).toNat < l.length) = true := by simp; omega
      have e4 : l.getD (0 + (i : Int).toNat) 0 = x := by
        rw [List.getD_eq_getElem?_getD]; simp [hx]
      rw [e1, e2, e3, e4, cond_true, cond_true, cond_true, w64 (by omega) (by omega), w64 (by omega) (by omega)]
      have := sum51 (F := F) (K := K) l hl hy r (i + 1) k (s + x) hdr (by omega) (by simpa using hk) (by omega) (by omega)
      rw [show ((i : Int) + 1) = ((i + 1 : Nat) : Int) by omega, this]
      congr 1
      simp only [sumI]; omega

def nodes (n f c u : Int) : Int := sumI (levels n f c u)

theorem nodes_ok (n f c u : Int) : 0 ≤ nodes n f c u ∧ nodes n f c u ≤ 16384 ∧ (rt n f c u → 1 ≤ nodes n f c u) ∧ (¬ rt n f c u → nodes n f c u = 0) := by
  obtain ⟨h1, h2⟩ := levels_ok n f c u
  obtain ⟨h3, h4⟩ := sumI_ok _ h2
  unfold nodes
  refine ⟨by omega, by omega, fun h => ?_, fun h => by simp [levels, h, sumI]⟩
  have : 1 ≤ (levels n f c u).length := by simp [levels, h]
  omega

theorem nodes50 {β : Type} {n f c u : Int} {K : Int → Option β} : f111_1 20000 n f c u K = K (nodes n f c u) := by
  obtain ⟨h1, h2⟩ := levels_ok n f c u
  simp only [f111_1, levels48]
  have := sum50 (F := 20000) (K := K) (levels n f c u) h1 h2 _ 0 20000 0 rfl (by omega) (by simp; omega) (by omega) (by omega)
  simp only [List.drop_zero, Int.zero_add] at this
  exact this

theorem nodes51 {β : Type} {n f c u : Int} {K : Int → Option β} : f36_1 20000 n f c u K = K (nodes n f c u) := by
  obtain ⟨h1, h2⟩ := levels_ok n f c u
  simp only [f36_1, levels49]
  have := sum51 (F := 20000) (K := K) (levels n f c u) h1 h2 _ 0 20000 0 rfl (by omega) (by simp; omega) (by omega) (by omega)
  simp only [List.drop_zero, Int.zero_add] at this
  exact this


end Go.Proofs.YtlgopekjjkdkiaaGreatDoor.X
end

section
/- Places on disks. -/
namespace Go.Proofs.YtlgopekjjkdkiaaGreatDoor.X
open Go Go.Proofs.YtlgopekjjkdkiaaGreatDoor.Ev
set_option linter.unusedSectionVars false
variable [FZ]
set_option linter.unusedVariables false
set_option linter.unusedSimpArgs false

/-- The place of a data sector; of a sector of an area of m. -/
def dat (n f c u i : Int) : Int := if rt n f c u ∧ 0 ≤ i ∧ i < n then 6 + i else -1
def are (n f c u m k : Int) : Int := if rt n f c u ∧ 0 ≤ k ∧ k < m then 6 + n + nodes n f c u + k else -1

theorem dataP {β : Type} {n f c u i : Int} {K : Int → Option β} : f129_1 20000 n f c u i K = K (dat n f c u i) := by
  rw [f129_1, right46, dat]
  by_cases h : rt n f c u
  · have hn := h.1
    rw [decide_eq_true h, Bool.not_true, cond_false, within87, w64 (x := n - 1) (by omega) (by omega)]
    by_cases h1 : 0 ≤ i ∧ i < n
    · rw [decide_eq_true (show i ≥ 0 ∧ i ≤ n - 1 by omega), Bool.not_true, cond_false, if_pos ⟨h, h1⟩, w64 (by omega) (by omega)]
    · rw [decide_eq_false (show ¬ (i ≥ 0 ∧ i ≤ n - 1) by omega), Bool.not_false, cond_true, if_neg (fun hh => h1 hh.2)]
  · rw [decide_eq_false h, Bool.not_false, cond_true, if_neg (fun hh => h hh.1)]

theorem areaP {β : Type} {n f c u s k : Int} (hs : s = 0 ∨ s = 1) {K : Int → Option β} : f131_1 20000 n f c u s k K = K (are n f c u (if s = 0 then 2 * c else 2 * u) k) := by
  have hno := nodes_ok n f c u
  have key : ∀ m : Int, 0 ≤ m → m ≤ 640 → cond (!(decide (rt n f c u))) (K (-1)) (f144_1 20000 k 0 (IntKind.i64.wrap (m - 1)) (fun x3 => cond (!x3) (K (-1)) (f111_1 20000 n f c u (fun x4 => K (IntKind.i64.wrap ((IntKind.i64.wrap ((IntKind.i64.wrap (6 + n)) + x4)) + k)))))) = K (are n f c u m k) := by
    intro m h0 h1
    rw [are]
    by_cases h : rt n f c u
    · have hn := h.1
      rw [decide_eq_true h, Bool.not_true, cond_false, within87, w64 (x := m - 1) (by omega) (by omega)]
      by_cases h2 : 0 ≤ k ∧ k < m
      · rw [decide_eq_true (show k ≥ 0 ∧ k ≤ m - 1 by omega), Bool.not_true, cond_false, if_pos ⟨h, h2⟩, nodes50, w64 (x := 6 + n) (by omega) (by omega), w64 (x := 6 + n + nodes n f c u) (by omega) (by omega), w64 (by omega) (by omega)]
      · rw [decide_eq_false (show ¬ (k ≥ 0 ∧ k ≤ m - 1) by omega), Bool.not_false, cond_true, if_neg (fun hh => h2 hh.2)]
    · rw [decide_eq_false h, Bool.not_false, cond_true, if_neg (fun hh => h hh.1)]
  have no : ∀ m m' : Int, ¬ rt n f c u → are n f c u m k = are n f c u m' k := fun m m' h => by rw [are, are, if_neg (fun hh => h hh.1), if_neg (fun hh => h hh.1)]
  rw [f131_1, f179_1]
  rcases hs with rfl | rfl
  · rw [show ((0 : Int) == 0) = true from rfl, cond_true, right46, if_pos rfl]
    by_cases h : rt n f c u
    · rw [w64 (x := 2 * c) (by have := h.2.2.1; omega) (by have := h.2.2.1; omega)]
      exact key _ (by have := h.2.2.1; omega) (by have := h.2.2.1; omega)
    · rw [no _ 0 h, ← key 0 (by omega) (by omega), decide_eq_false h]; rfl
  · rw [show ((1 : Int) == 0) = false from rfl, cond_false, show ((1 : Int) == 1) = true from rfl, cond_true, right46, if_neg (by omega)]
    by_cases h : rt n f c u
    · rw [w64 (x := 2 * u) (by have := h.2.2.2; omega) (by have := h.2.2.2; omega)]
      exact key _ (by have := h.2.2.2; omega) (by have := h.2.2.2; omega)
    · rw [no _ 0 h, ← key 0 (by omega) (by omega), decide_eq_false h]; rfl

end Go.Proofs.YtlgopekjjkdkiaaGreatDoor.X
end

section
/- Sectors that are kept: appended, scanned; the code's. -/
namespace Go.Proofs.YtlgopekjjkdkiaaGreatDoor.X
open Go Go.Proofs.YtlgopekjjkdkiaaGreatDoor.Ev
set_option linter.unusedSectionVars false
variable [FZ]
set_option linter.unusedVariables false
set_option linter.unusedSimpArgs false

/-! ### Numbers behind bytes -/

theorem putS {β : Type} {n s : Int} {v l : List Int} {k : Nat} {K : List Int → Option β} (h : 0 ≤ s ∧ s ≤ 100) (hl : l.length ≤ 2000) : f147_1_l6 20000 n v K (k + 1) s l = f147_1_l6 20000 n v K k (s - 8) (l ++ [IntKind.u8.wrap (ishr .u64 n s)]) := by
  rw [f147_1_l6, ct (by omega), cf (by omega), ct (by omega), w64 (by omega) (by omega)]
theorem putE {β : Type} {n : Int} {v l : List Int} {k : Nat} {K : List Int → Option β} : f147_1_l6 20000 n v K (k + 1) (-8) l = K l := by
  rw [f147_1_l6, cf (by omega)]
theorem putL4 {β : Type} {n : Int} {v l : List Int} {k : Nat} {K : List Int → Option β} (hl : l.length ≤ 1000) : f147_1_l6 20000 n v K (k + 1 + 1 + 1 + 1 + 1) 24 l = K (l ++ b4 n) := by
  rw [putS (by omega) (by omega), putS (by omega) (by simp; omega), putS (by omega) (by simp; omega), putS (by omega) (by simp; omega)]
  refine putE.trans ?_
  congr 1
  simp [b4]
theorem putA4 {β : Type} {n : Int} {l : List Int} {K : List Int → Option β} (hl : l.length ≤ 1000) : f147_1 20000 4 n l K = K (l ++ b4 n) := by
  rw [f147_1, w64 (x := ((l.length : Nat) : Int) + 8) (by omega) (by omega), ct ⟨by omega, by omega, by omega, by omega⟩, ct (by omega), f190_1, ct (by omega), decide_eq_true (show (4 : Int) ≤ 8 by omega), cond_ff', List.take_zero, List.nil_append]
  exact putL4 (k := 19995) (K := fun x => K x) hl

/-! ### A head -/

def hdL (e k i s : Int) : List Int := b8 e ++ (b4 k ++ (b4 i ++ b4 s))
def hdB (e k i s : Int) : ByteArray := mkB 8 (ofInts (hdL e k i s))
theorem hdL_len (e k i s : Int) : (hdL e k i s).length = 20 := rfl
theorem hdL_r (e k i s : Int) : byts (hdL e k i s) := app_r (b8_r e) (app_r (b4_r k) (app_r (b4_r i) (b4_r s)))
theorem hdB_size (e k i s : Int) : (hdB e k i s).size = 64 := mkB_size (by rw [oi_size, hdL_len]; omega)

theorem bodyP {β : Type} {e k i s : Int} {K : ByteArray → Option β} : f133_1 20000 e k i s K = K (ofInts (hdL e k i s)) := by
  have h8 : (b8 e).length = 8 := rfl
  have h4 : ∀ n, (b4 n).length = 4 := fun _ => rfl
  rw [f133_1, put8, putA4 (by omega), putA4 (by simp [h8, h4]), putA4 (by simp [h8, h4])]
  simp only [hdL, List.append_assoc]

/-- What the numbers of a head are. -/
def g1 (L : List Int) : Int := num 0 (L.take 8)
def g2 (L : List Int) : Int := num 0 ((L.drop 8).take 4)
def g3 (L : List Int) : Int := num 0 (((L.drop 8).drop 4).take 4)
def g4 (L : List Int) : Int := num 0 ((((L.drop 8).drop 4).drop 4).take 4)

theorem g_hd {e k i s : Int} (he : U64 e) (hk : U32 k) (hi : U32 i) (hs : U32 s) : g1 (hdL e k i s) = e ∧ g2 (hdL e k i s) = k ∧ g3 (hdL e k i s) = i ∧ g4 (hdL e k i s) = s := by
  have d1 : (hdL e k i s).drop 8 = b4 k ++ (b4 i ++ b4 s) := List.drop_left' (l₁ := b8 e) rfl
  have d2 : (b4 k ++ (b4 i ++ b4 s)).drop 4 = b4 i ++ b4 s := List.drop_left' rfl
  have d3 : (b4 i ++ b4 s).drop 4 = b4 s := List.drop_left' rfl
  have t1 : (hdL e k i s).take 8 = b8 e := List.take_left' (l₁ := b8 e) rfl
  have t2 : (b4 k ++ (b4 i ++ b4 s)).take 4 = b4 k := List.take_left' rfl
  have t3 : (b4 i ++ b4 s).take 4 = b4 i := List.take_left' rfl
  have t4 : (b4 s).take 4 = b4 s := rfl
  refine ⟨?_, ?_, ?_, ?_⟩
  · rw [g1, t1, num8 he]
  · rw [g2, d1, t2, num_b4 hk]
  · rw [g3, d1, d2, t3, num_b4 hi]
  · rw [g4, d1, d2, d3, t4, num_b4 hs]

theorem g_r {L : List Int} (hb : byts L) (hl : L.length = 20) : U64 (g1 L) ∧ U32 (g2 L) ∧ U32 (g3 L) ∧ U32 (g4 L) :=
  ⟨(num8_inv (by simp; omega) (take_r 8 hb)).2, (num4_inv (by simp; omega) (take_r 4 (drop_r 8 hb))).2, (num4_inv (by simp; omega) (take_r 4 (drop_r 4 (drop_r 8 hb)))).2, (num4_inv (by simp; omega) (take_r 4 (drop_r 4 (drop_r 4 (drop_r 8 hb))))).2⟩

theorem numOK {w : Nat} {l : List Int} (h1 : 1 ≤ w) (hw : w ≤ 8) (h : w ≤ l.length) (hl : l.length ≤ 100) (hb : byts l) {β : Type} (K : Int → Int → List Int → Option β) : f181_1 20000 (w : Int) 0 l K = K (num 0 (l.take w)) 0 (l.drop w) := by
  refine (numC h1 hw (by omega) hb).trans ?_
  rw [nm, if_neg (by simp), if_pos h]

theorem numE {w : Nat} {e : Int} {l : List Int} (h1 : 1 ≤ w) (hw : w ≤ 8) (hl : l.length ≤ 100) (hb : byts l) : ∃ (v e' : Int) (l' : List Int), (∀ {β : Type} (K : Int → Int → List Int → Option β), f181_1 20000 (w : Int) e l K = K v e' l') ∧ l'.length ≤ 100 ∧ byts l' := by
  refine ⟨(nm w e l).1, (nm w e l).2.1, (nm w e l).2.2, fun K => numC h1 hw (by omega) hb, ?_, ?_⟩
  · unfold nm
    split
    · exact hl
    · split
      · simp; omega
      · exact hl
  · unfold nm
    split
    · exact hb
    · split
      · exact drop_r w hb
      · exact hb

/-- A sector is a head, or none. -/
def isH (s : ByteArray) : Prop := (opn 8 s).2 = 0 ∧ (opn 8 s).1.size = 20
instance (s : ByteArray) : Decidable (isH s) := by unfold isH; infer_instance

theorem readH {s : ByteArray} : ∃ v1 v2 v3 v4 : Int, (∀ {β : Type} (K : Int → Int → Int → Int → Bool → Option β), f134_1 20000 s K = K v1 v2 v3 v4 (decide (isH s))) ∧ (isH s → v1 = g1 (toInts (opn 8 s).1) ∧ v2 = g2 (toInts (opn 8 s).1) ∧ v3 = g3 (toInts (opn 8 s).1) ∧ v4 = g4 (toInts (opn 8 s).1)) := by
  have hos := opn_size 8 s
  have hl := toInts_size (opn 8 s).1
  have hb := toInts_r (opn 8 s).1
  by_cases hH : isH s
  · have h2 := hH.2
    refine ⟨g1 (toInts (opn 8 s).1), g2 (toInts (opn 8 s).1), g3 (toInts (opn 8 s).1), g4 (toInts (opn 8 s).1), fun {β} K => ?_, fun _ => ⟨rfl, rfl, rfl, rfl⟩⟩
    rw [f134_1, openP, f180_1, ct (by omega), List.nil_append]
    refine (numOK (w := 8) (by omega) (by omega) (by omega) (by omega) hb _).trans ?_
    refine (numOK (w := 4) (by omega) (by omega) (by simp; omega) (by simp; omega) (drop_r 8 hb) _).trans ?_
    refine (numOK (w := 4) (by omega) (by omega) (by simp; omega) (by simp; omega) (drop_r 4 (drop_r 8 hb)) _).trans ?_
    refine (numOK (w := 4) (by omega) (by omega) (by simp; omega) (by simp; omega) (drop_r 4 (drop_r 4 (drop_r 8 hb))) _).trans ?_
    rw [hH.1, show ((0 : Int) == 0) = true from rfl, cond_true, decide_eq_true hH, show (((opn 8 s).1.size : Int) == 20) = true by rw [h2]; rfl]
    rfl
  · obtain ⟨v1, e1, l1, k1, p1, q1⟩ := numE (w := 8) (e := 0) (l := toInts (opn 8 s).1) (by omega) (by omega) (by omega) hb
    obtain ⟨v2, e2, l2, k2, p2, q2⟩ := numE (w := 4) (e := e1) (l := l1) (by omega) (by omega) p1 q1
    obtain ⟨v3, e3, l3, k3, p3, q3⟩ := numE (w := 4) (e := e2) (l := l2) (by omega) (by omega) p2 q2
    obtain ⟨v4, e4, l4, k4, p4, q4⟩ := numE (w := 4) (e := e3) (l := l3) (by omega) (by omega) p3 q3
    refine ⟨v1, v2, v3, v4, fun {β} K => ?_, fun hh => (hH hh).elim⟩
    rw [f134_1, openP, f180_1, ct (by omega), List.nil_append]
    refine (k1 _).trans ?_
    refine (k2 _).trans ?_
    refine (k3 _).trans ?_
    refine (k4 _).trans ?_
    rw [decide_eq_false hH]
    by_cases h1 : (opn 8 s).2 = 0
    · have h2 : ¬ (opn 8 s).1.size = 20 := fun h => hH ⟨h1, h⟩
      rw [h1, show ((0 : Int) == 0) = true from rfl, cond_true, show (((opn 8 s).1.size : Int) == 20) = false by simp; omega]
    · rw [show ((opn 8 s).2 == 0) = false by simp [h1], cond_false]

/-! ### Append -/

/-- What Append comes to: an entry's numbers, why not, and the disk. -/
def cwS (n f c u k e i a : Int) (b : Bool) (d : Int) (l : List ByteArray) (w : WL) : Int × Int × ByteArray × St :=
  if ¬ rt n f c u then (0, 0, ByteArray.empty, 12, a, b, d, l, w)
  else if k < 0 ∨ k ≥ c then (0, 0, ByteArray.empty, 11, a, b, d, l, w)
  else if ¬ (0 ≤ i ∧ i < n) then (0, 0, ByteArray.empty, 3, a, b, d, l, w)
  else if (rd (6 + i) b l w).2 ≠ 0 then (0, 0, ByteArray.empty, (rd (6 + i) b l w).2, a, b, d, l, w)
  else if (svS (6 + n + nodes n f c u + (2 * k + 1)) (rd (6 + i) b l w).1 a b d l w).1 ≠ 0 then (0, 0, ByteArray.empty, svS (6 + n + nodes n f c u + (2 * k + 1)) (rd (6 + i) b l w).1 a b d l w)
  else let s1 := svS (6 + n + nodes n f c u + (2 * k + 1)) (rd (6 + i) b l w).1 a b d l w
    let s2 := svS (6 + n + nodes n f c u + 2 * k) (hdB e k i (crc (toInts (rd (6 + i) b l w).1))) s1.2.1 s1.2.2.1 s1.2.2.2.1 s1.2.2.2.2.1 s1.2.2.2.2.2
    if s2.1 ≠ 0 then (0, 0, ByteArray.empty, s2) else (e, i, (rd (6 + i) b l w).1, s2)

def app9 {β : Type} (K : Int → Int → ByteArray → Int → Int → Bool → Int → List ByteArray → WL → Option β) (s : Int × Int × ByteArray × St) : Option β :=
  K s.1 s.2.1 s.2.2.1 s.2.2.2.1 s.2.2.2.2.1 s.2.2.2.2.2.1 s.2.2.2.2.2.2.1 s.2.2.2.2.2.2.2.1 s.2.2.2.2.2.2.2.2

theorem cwrP {β : Type} {m q : Nat} {x a d : Int} {t : ByteArray} {b : Bool} {l : List ByteArray} {w : WL} (h : DS m q a d l w) (hq : q < 299) {K : Int → Int → Bool → Int → List ByteArray → WL → Option β} :
    f130_1 20000 x t a b d l w K = app K (svS x t a b d l w) := by
  rw [f130_1]
  exact svS_P (K := K) h hq

theorem cwP {β : Type} {m q : Nat} {n f c u k e i a d : Int} {b : Bool} {l : List ByteArray} {w : WL} (h : DS m q a d l w) (hq : q < 290) (h64 : (rd (6 + i) b l w).1.size ≤ 100) {K : Int → Int → ByteArray → Int → Int → Bool → Int → List ByteArray → WL → Option β} :
    f65_1 20000 n f c u k e i a b d l w K = app9 K (cwS n f c u k e i a b d l w) := by
  rw [f65_1, right46, cwS]
  by_cases hr : rt n f c u
  · have hn := hr.1
    have hc := hr.2.2.1
    have hno := nodes_ok n f c u
    rw [decide_eq_true hr, Bool.not_true, cond_false, if_neg (fun hh => hh hr)]
    by_cases h1 : k < 0
    · rw [ct h1, if_pos (Or.inl h1)]; rfl
    · by_cases h2 : k ≥ c
      · rw [cf h1, ct h2, if_pos (Or.inr h2)]; rfl
      · rw [cf h1, cf h2, if_neg (show ¬ (k < 0 ∨ k ≥ c) by omega), dataP, dat]
        by_cases h3 : 0 ≤ i ∧ i < n
        · rw [if_pos ⟨hr, h3⟩, if_neg (fun hh => hh h3), cf (by omega), dataP, dat, if_pos ⟨hr, h3⟩, readP (by omega) h]
          by_cases h4 : (rd (6 + i) b l w).2 = 0
          · have hcr := crc_r (toInts (rd (6 + i) b l w).1)
            have htl := toInts_size (rd (6 + i) b l w).1
            rw [bnf h4, cond_false, if_neg (fun hh => hh h4), areaP (.inl rfl), if_pos rfl, are, w64 (x := 2 * k) (by omega) (by omega), w64 (x := 2 * k + 1) (by omega) (by omega), if_pos (show rt n f c u ∧ 0 ≤ 2 * k + 1 ∧ 2 * k + 1 < 2 * c from ⟨hr, by omega, by omega⟩), cwrP h (by omega), app]
            generalize hs1 : svS (6 + n + nodes n f c u + (2 * k + 1)) (rd (6 + i) b l w).1 a b d l w = s1
            have h' := svS_ok (x := 6 + n + nodes n f c u + (2 * k + 1)) (t := (rd (6 + i) b l w).1) (b := b) h (by omega)
            rw [hs1] at h'
            by_cases h5 : s1.1 = 0
            · have hmk : mkR 8 (ofInts (hdL e k i (crc (toInts (rd (6 + i) b l w).1)))) = (hdB e k i (crc (toInts (rd (6 + i) b l w).1)), 0) := by rw [mkR, if_neg (by omega), if_neg (by rw [oi_size, hdL_len]; omega)]; rfl
              have hbig := big60
              rw [bnf h5, cond_false, if_neg (fun hh => hh h5), f132_1, crcP (by omega), wu64 (x := k) (by omega) (by omega), wu64 (x := i) (by omega) (by omega), wu64 (x := crc _) (by omega) (by omega), bodyP, makeP (by rw [oi_size, hdL_len]; omega), hmk, bnf rfl, cond_false, areaP (.inl rfl), if_pos rfl, are, if_pos (show rt n f c u ∧ 0 ≤ 2 * k ∧ 2 * k < 2 * c from ⟨hr, by omega, by omega⟩), cwrP h' (by omega), app]
              by_cases h6 : (svS (6 + n + nodes n f c u + 2 * k) (hdB e k i (crc (toInts (rd (6 + i) b l w).1))) s1.2.1 s1.2.2.1 s1.2.2.2.1 s1.2.2.2.2.1 s1.2.2.2.2.2).1 = 0
              · rw [bnf h6, cond_false]
                show _ = app9 K (if _ then _ else _)
                rw [if_neg (fun hh => hh h6), app9]
                simp only
                rw [h6]
              · rw [bnt h6, cond_true]
                show _ = app9 K (if _ then _ else _)
                rw [if_pos h6]; rfl
            · rw [bnt h5, cond_true, if_pos h5]; rfl
          · rw [bnt h4, cond_true, if_pos h4]; rfl
        · rw [if_neg (fun hh => h3 hh.2), ct (by omega), if_pos h3]; rfl
  · rw [decide_eq_false hr, Bool.not_false, cond_true, if_pos hr]; rfl

end Go.Proofs.YtlgopekjjkdkiaaGreatDoor.X
end

section
/- Sectors that are kept: scanned; the code's. -/
namespace Go.Proofs.YtlgopekjjkdkiaaGreatDoor.X
open Go Go.Proofs.YtlgopekjjkdkiaaGreatDoor.Ev
set_option linter.unusedSectionVars false
variable [FZ]
set_option linter.unusedVariables false
set_option linter.unusedSimpArgs false

abbrev EL := List (Int × (Int × (Int × ByteArray)))

/-- The entries from the k-th on, m of them at most. -/
def scn (n B e : Int) (b : Bool) (l : List ByteArray) (w : WL) : Nat → Nat → EL → Int × EL
  | 0, _, out => (0, out)
  | m + 1, k, out =>
    if (rd (B + 2 * (k : Int)) b l w).2 ≠ 0 then ((rd (B + 2 * (k : Int)) b l w).2, [])
    else if ¬ isH (rd (B + 2 * (k : Int)) b l w).1 ∨ g1 (toInts (opn 8 (rd (B + 2 * (k : Int)) b l w).1).1) ≠ e ∨ g2 (toInts (opn 8 (rd (B + 2 * (k : Int)) b l w).1).1) ≠ (k : Int) ∨ g3 (toInts (opn 8 (rd (B + 2 * (k : Int)) b l w).1).1) ≥ n then (0, out)
    else if (rd (B + (2 * (k : Int) + 1)) b l w).2 ≠ 0 then ((rd (B + (2 * (k : Int) + 1)) b l w).2, [])
    else if crc (toInts (rd (B + (2 * (k : Int) + 1)) b l w).1) ≠ g4 (toInts (opn 8 (rd (B + 2 * (k : Int)) b l w).1).1) then (0, out)
    else scn n B e b l w m (k + 1) (out ++ [(0, (e, (g3 (toInts (opn 8 (rd (B + 2 * (k : Int)) b l w).1).1), (rd (B + (2 * (k : Int) + 1)) b l w).1)))])

theorem scnL {β : Type} {q p : Nat} {n f c u e a d : Int} {b : Bool} {l : List ByteArray} {w : WL} (hr : rt n f c u) (he : U64 e) (h : DS q p a d l w) (hsz : ∀ x, (rd x b l w).1.size ≤ 100) {K : Int → EL → Option β} :
    ∀ (m k fuel : Nat) (out : EL), ((m + k : Nat) : Int) = c → m < fuel → out.length ≤ k →
    f66_1_l5 20000 e c a b d l w n f c u (fun x29 x30 => K x29 []) (fun x31 x32 x33 x34 x35 => K 0 x31) (fun x36 x37 x38 x39 x40 x41 x42 x43 => K x36 []) (fun x44 x45 x46 x47 x48 x49 x50 => K 0 x44) (fun x51 => K 0 x51) fuel (k : Int) out =
      K (scn n (6 + n + nodes n f c u) e b l w m k out).1 (scn n (6 + n + nodes n f c u) e b l w m k out).2
  | _, _, 0, _, _, h, _ => by omega
  | 0, k, fuel + 1, out, hm, _, _ => by
    rw [f66_1_l5, cf (by omega)]; rfl
  | m + 1, k, fuel + 1, out, hm, hf, ho => by
    have hn := hr.1
    have hc := hr.2.2.1
    have hno := nodes_ok n f c u
    rw [f66_1_l5, ct (by omega), w64 (x := 2 * (k : Int)) (by omega) (by omega), areaP (.inl rfl), if_pos rfl, are, if_pos (show rt n f c u ∧ 0 ≤ 2 * (k : Int) ∧ 2 * (k : Int) < 2 * c from ⟨hr, by omega, by omega⟩), readP (by omega) h, scn]
    generalize rd (6 + n + nodes n f c u + 2 * (k : Int)) b l w = s1
    by_cases h1 : s1.2 = 0
    · rw [bnf h1, cond_false, if_neg (fun hh => hh h1)]
      obtain ⟨v1, v2, v3, v4, hv, hg⟩ := readH (s := s1.1)
      rw [hv]
      by_cases h2 : isH s1.1
      · obtain ⟨rfl, rfl, rfl, rfl⟩ := hg h2
        have hL : (toInts (opn 8 s1.1).1).length = 20 := by rw [toInts_size]; exact h2.2
        obtain ⟨r1, r2, r3, r4⟩ := g_r (toInts_r (opn 8 s1.1).1) hL
        generalize toInts (opn 8 s1.1).1 = L at r1 r2 r3 r4
        rw [decide_eq_true h2, Bool.not_true, cond_false]
        by_cases h3 : g1 L = e
        · rw [bnf h3, cond_false, wu64 (x := (k : Int)) (by omega) (by omega)]
          by_cases h4 : g2 L = (k : Int)
          · rw [bnf h4, cond_false, wu64 (x := n) (by omega) (by omega)]
            by_cases h5 : g3 L ≥ n
            · rw [ct h5, if_pos (.inr (.inr (.inr h5)))]
            · rw [cf h5, if_neg (show ¬ (¬ isH s1.1 ∨ g1 L ≠ e ∨ g2 L ≠ (k : Int) ∨ g3 L ≥ n) from fun hh => by
                rcases hh with hh | hh | hh | hh
                · exact hh h2
                · exact hh h3
                · exact hh h4
                · exact h5 hh), w64 (x := 2 * (k : Int) + 1) (by omega) (by omega), areaP (.inl rfl), if_pos rfl, are, if_pos (show rt n f c u ∧ 0 ≤ 2 * (k : Int) + 1 ∧ 2 * (k : Int) + 1 < 2 * c from ⟨hr, by omega, by omega⟩), readP (by omega) h]
              have hsz2 := hsz (6 + n + nodes n f c u + (2 * (k : Int) + 1))
              generalize rd (6 + n + nodes n f c u + (2 * (k : Int) + 1)) b l w = s2 at hsz2
              by_cases h6 : s2.2 = 0
              · have hcr := crc_r (toInts s2.1)
                have htl := toInts_size s2.1
                rw [bnf h6, cond_false, if_neg (fun hh => hh h6), w64 (x := g3 L) (by omega) (by omega), f132_1, crcP (by omega), wu64 (x := (k : Int)) (by omega) (by omega), wu64 (x := g3 L) (by omega) (by omega), wu64 (x := crc _) (by omega) (by omega), h3, h4, beq_self_eq_true, beq_self_eq_true, beq_self_eq_true, Bool.true_and, Bool.true_and, Bool.true_and]
                by_cases h7 : crc (toInts s2.1) = g4 L
                · rw [show (crc (toInts s2.1) == g4 L) = true by simp [h7], Bool.not_true, cond_false, if_neg (fun hh => hh h7), ct (by omega), w64 (x := (k : Int) + 1) (by omega) (by omega)]
                  have ih := scnL hr he h hsz (K := K) m (k + 1) fuel (out ++ [(0, (e, (g3 L, s2.1)))]) (by omega) (by omega) (by simp; omega)
                  push_cast at ih
                  exact ih
                · rw [show (crc (toInts s2.1) == g4 L) = false by simp [h7], Bool.not_false, cond_true, if_pos h7]
              · rw [bnt h6, cond_true, if_pos h6]
          · rw [bnt h4, cond_true, if_pos (.inr (.inr (.inl h4)))]
        · rw [bnt h3, cond_true, if_pos (.inr (.inl h3))]
      · rw [decide_eq_false h2, Bool.not_false, cond_true, if_pos (.inl h2)]
    · rw [bnt h1, cond_true, if_pos h1]

theorem scanP {β : Type} {q p : Nat} {n f c u e a d : Int} {b : Bool} {l : List ByteArray} {w : WL} (hr : rt n f c u) (he : U64 e) (h : DS q p a d l w) (hsz : ∀ x, (rd x b l w).1.size ≤ 100) {K : Int → EL → Option β} :
    f66_1 20000 n f c u e a b d l w K = K (scn n (6 + n + nodes n f c u) e b l w c.toNat 0 []).1 (scn n (6 + n + nodes n f c u) e b l w c.toNat 0 []).2 := by
  have hc := hr.2.2.1
  rw [f66_1, right46, decide_eq_true hr, Bool.not_true, cond_false]
  exact scnL hr he h hsz c.toNat 0 20000 [] (by omega) (by omega) (by simp)

end Go.Proofs.YtlgopekjjkdkiaaGreatDoor.X
end

section
/- A disk with entries that are kept; a new disk; an entry more. -/
namespace Go.Proofs.YtlgopekjjkdkiaaGreatDoor.X
open Go Go.Proofs.YtlgopekjjkdkiaaGreatDoor.Ev
set_option linter.unusedSectionVars false
variable [FZ]
set_option linter.unusedVariables false
set_option linter.unusedSimpArgs false

/-! ### A new disk -/

theorem repL {β : Type} {m : Nat} {z : ByteArray} {v : List ByteArray} (hm : m ≤ 2000) {K : List ByteArray → Option β} : ∀ (fuel i : Nat), 1 ≤ i → i ≤ m → m - i < fuel →
    f68_1_l8 20000 v K fuel (i : Int) (List.replicate i z ++ List.replicate (m - i) ByteArray.empty) = K (List.replicate m z)
  | 0, i, _, _, h => by omega
  | fuel + 1, i, h1, h2, hf => by
    have hl : (List.replicate i z ++ List.replicate (m - i) ByteArray.empty).length = m := by simp; omega
    rw [f68_1_l8, hl]
    by_cases h : (i : Int) < (m : Int)
    · rw [ct h, ct ⟨by omega, by omega, by omega⟩, ct ⟨by omega, by omega, by omega⟩]
      have e1 : ((List.replicate i z ++ List.replicate (m - i) ByteArray.empty).drop 0).take (((i : Int) - 0).toNat) = List.replicate i z := by
        rw [List.drop_zero, show ((i : Int) - 0).toNat = i by omega]
        exact List.take_left' (by simp)
      have e2 : ((m : Int) - (i : Int)).toNat = m - i := by omega
      rw [e1, e2, List.length_replicate, show 0 + (i : Int).toNat = i by omega]
      have e3 : (List.replicate i z ++ List.replicate (m - i) ByteArray.empty).take i = List.replicate i z := List.take_left' (by simp)
      have e4 : (List.replicate i z ++ List.replicate (m - i) ByteArray.empty).drop (i + min i (m - i)) = List.replicate (m - (i + min i (m - i))) ByteArray.empty := by
        rw [← List.drop_drop, List.drop_left' (by simp), List.drop_replicate]
        congr 1; omega
      rw [e3, e4, List.take_replicate, ← List.append_assoc, List.replicate_append_replicate, w64 (by omega) (by omega)]
      have ih := repL hm (z := z) (v := v) (K := K) fuel (i + min i (m - i)) (by omega) (by omega) (by omega)
      rw [Nat.min_comm (m - i) i]
      push_cast at ih ⊢
      exact ih
    · have : m = i := by omega
      subst this
      rw [cf h]
      simp

theorem newP {β : Type} {m : Nat} (h1 : 1 ≤ m) (h2 : m ≤ 1200) {K0 : Option β} {K1 : List ByteArray → WL → Option β} : f12_1 20000 (m : Int) K0 K1 = K1 (List.replicate m Z64) [] := by
  have hz : ∀ K : ByteArray → Option β, f69_1 20000 K = K Z64 := fun K => by kernel_rfl
  have hmul : ∀ K : Int → Int → Option β, f135_1 20000 (IntKind.u64.wrap (([Z64].length : Nat) : Int)) (IntKind.u64.wrap (m : Int)) K = K 0 (m : Int) := by
    intro K
    rw [f135_1, f183_1, wu64 (x := (m : Int)) (by omega) (by omega)]
    have e1 : IntKind.u64.wrap (([Z64].length : Nat) : Int) = 1 := rfl
    rw [e1]
    have s1 : ishr .u64 1 32 = 0 := by decide
    have e : (2 : Int) ^ (min (32 : Int).toNat IntKind.u64.bits) = 4294967296 := by decide
    have s2 : ishr .u64 (m : Int) 32 = 0 := by rw [ishr, e, Int.fdiv_eq_ediv_of_nonneg _ (by omega)]; omega
    have a1 : iand .u64 1 4294967295 = 1 := by decide
    have a2 : iand .u64 (m : Int) 4294967295 = (m : Int) := by
      have := and64 (A := m) (B := 4294967295) (by omega) (by decide)
      rw [show (4294967295 : Int) = ((4294967295 : Nat) : Int) from rfl, this]
      have : m &&& (2 ^ 32 - 1) = m % 2 ^ 32 := Nat.and_two_pow_sub_one_eq_mod m 32
      rw [show (4294967295 : Nat) = 2 ^ 32 - 1 from rfl, this, Nat.mod_eq_of_lt (by omega)]
    have a0 : iand .u64 0 4294967295 = 0 := by decide
    have z0 : ishr .u64 0 32 = 0 := by decide
    simp only [s1, s2, a1, a2, Int.zero_mul, Int.mul_zero, Int.one_mul, wu64 (x := (0 : Int)) (by omega) (by omega), wu64 (x := (m : Int)) (by omega) (by omega), z0, a0, Int.zero_add, Int.add_zero]
  rw [f12_1, cf (by omega), cf (by omega), hz, f68_1, cf (by omega), hmul, cf (by omega), cf (by omega), w64 (x := (m : Int)) (by omega) (by omega), ct ⟨by omega, by omega, by omega, by omega⟩]
  have hs : (List.replicate (m : Int).toNat ByteArray.empty).take 0 ++ ([Z64].take (List.replicate (m : Int).toNat ByteArray.empty).length ++ (List.replicate (m : Int).toNat ByteArray.empty).drop (0 + min [Z64].length (List.replicate (m : Int).toNat ByteArray.empty).length)) = List.replicate 1 Z64 ++ List.replicate (m - 1) ByteArray.empty := by
    rw [List.take_zero, List.nil_append, List.length_replicate, show (m : Int).toNat = m by omega, List.take_of_length_le (by simp; omega), List.drop_replicate]
    show [Z64] ++ List.replicate (m - (0 + min 1 m)) ByteArray.empty = _
    rw [show 0 + min 1 m = 1 by omega]; rfl
  rw [hs, List.length_replicate, show (m : Int).toNat = m by omega, show ((min [Z64].length m : Nat) : Int) = ((1 : Nat) : Int) by simp; omega]
  exact repL (by omega) 20000 1 (by omega) (by omega) (by omega)

/-! ### Lists of entries -/

theorem entL {β : Type} {E : EL} (hl : E.length ≤ 10000) {K0 K1 : Option β} : ∀ (r : EL) (i k : Nat), E.drop i = r → i ≤ E.length → r.length < k → f73_1_l4 20000 E E K0 K1 k (i : Int) = K1
  | [], i, 0, _, _, hk => by simp at hk
  | _ :: _, i, 0, _, _, hk => by simp at hk
  | [], i, k + 1, hd, hi, _ => by
    have := len_of_drop_nil hd hi
    rw [f73_1_l4, cf (by omega)]
  | p :: r, i, k + 1, hd, hi, hk => by
    obtain ⟨h1, h2, h3⟩ := getD_of_drop (d := ((0, (0, (0, ByteArray.empty))) : Int × (Int × (Int × ByteArray)))) hd
    rw [f73_1_l4, ct (by omega), ct (by omega), ct (by omega), ct (by omega), ct (by omega), show ∀ p : Int × (Int × (Int × ByteArray)), (!(p.1 == p.1 && (p.2.1 == p.2.1 && (p.2.2.1 == p.2.2.1 && p.2.2.2.toList == p.2.2.2.toList)))) = false from fun p => by simp, cond_false, w64 (by omega) (by omega)]
    exact entL hl r (i + 1) k h3 (by omega) (by simp at hk; omega)
theorem entP {β : Type} {E : EL} (hl : E.length ≤ 10000) {K : Bool → Option β} : f73_1 20000 E E K = K true := by
  rw [f73_1, bnf rfl, cond_false]
  exact entL hl E 0 20000 rfl (by omega) (by omega)

/-! ### A disk on which m entries are kept -/

noncomputable def cZ : Int := crc (toInts Z64)
theorem cZ_r : U32 cZ := crc_r _
theorem Z64_size : Z64.size = 64 := by rw [D_size, Z64_D]; simp

structure KI (n c B e : Int) (m : Nat) (E : EL) (l : List ByteArray) : Prop where
  len : (l.length : Int) = B + 2 * c
  el : E.length = m
  mc : (m : Int) ≤ c
  ent : ∀ j : Nat, j < m → ∃ i : Int, 0 ≤ i ∧ i < n ∧ E.drop j = (0, (e, (i, Z64))) :: E.drop (j + 1) ∧ l.getD (B + 2 * (j : Int)).toNat ByteArray.empty = hdB e j i cZ
  oth : ∀ x : Nat, x < l.length → (∀ j : Nat, j < m → (x : Int) ≠ B + 2 * (j : Int)) → l.getD x ByteArray.empty = Z64

theorem rd_nil' {x : Int} {l : List ByteArray} (hx : 0 ≤ x ∧ x < (l.length : Int)) : rd x false l [] = (l.getD x.toNat ByteArray.empty, 0) := by
  rw [rd, if_neg (by simp), if_pos hx, kp, if_pos hx]; rfl

theorem rd_sz {l : List ByteArray} (h : ∀ x : Nat, x < l.length → (l.getD x ByteArray.empty).size ≤ 100) : ∀ x, (rd x false l []).1.size ≤ 100 := by
  intro x
  by_cases hx : 0 ≤ x ∧ x < (l.length : Int)
  · rw [rd_nil' hx]; exact h _ (by omega)
  · rw [rd, if_neg (by simp), if_neg hx]
    show ByteArray.empty.size ≤ 100; decide

section
variable {n c B e : Int} {m : Nat} {E : EL} {l : List ByteArray}

theorem KI.sz (h : KI n c B e m E l) : ∀ x : Nat, x < l.length → (l.getD x ByteArray.empty).size ≤ 100 := by
  intro x hx
  by_cases hj : ∃ j : Nat, j < m ∧ (x : Int) = B + 2 * (j : Int)
  · obtain ⟨j, h1, h2⟩ := hj
    obtain ⟨i, _, _, _, h5⟩ := h.ent j h1
    have : x = (B + 2 * (j : Int)).toNat := by omega
    rw [this, h5, hdB_size]; omega
  · rw [h.oth x hx (fun j h1 h2 => hj ⟨j, h1, h2⟩), Z64_size]; omega

theorem KI.scn_eq (h : KI n c B e m E l) (hB : 0 ≤ B) (he : U64 e) (hn : n ≤ 128) (hc : c ≤ 64) : ∀ (d j k : Nat), d + j = m → ((k + j : Nat) : Int) = c → ∀ out, out ++ E.drop j = E → scn n B e false l [] k j out = (0, E)
  | 0, j, 0, hd, hk, out, ho => by
    have : E.drop j = [] := List.drop_eq_nil_of_le (by rw [h.el]; omega)
    rw [this, List.append_nil] at ho
    rw [scn, ho]
  | 0, j, k + 1, hd, hk, out, ho => by
    have hl := h.len
    have : E.drop j = [] := List.drop_eq_nil_of_le (by rw [h.el]; omega)
    rw [this, List.append_nil] at ho
    have hx : 0 ≤ B + 2 * (j : Int) ∧ B + 2 * (j : Int) < (l.length : Int) := by omega
    have hz : l.getD (B + 2 * (j : Int)).toNat ByteArray.empty = Z64 := h.oth _ (by omega) (fun j' h1 h2 => by omega)
    rw [scn, rd_nil' hx, hz]
    show (if (0 : Int) ≠ 0 then _ else if ¬ isH Z64 ∨ _ then _ else _) = _
    rw [if_neg (by simp), if_pos (.inl fun hh => opn_zero 8 hh.1), ho]
  | d + 1, j, 0, hd, hk, out, ho => by have := h.mc; omega
  | d + 1, j, k + 1, hd, hk, out, ho => by
    have hl := h.len
    obtain ⟨i, h1, h2, h3, h4⟩ := h.ent j (by omega)
    have hx : 0 ≤ B + 2 * (j : Int) ∧ B + 2 * (j : Int) < (l.length : Int) := by omega
    have hx2 : 0 ≤ B + (2 * (j : Int) + 1) ∧ B + (2 * (j : Int) + 1) < (l.length : Int) := by omega
    have hz : l.getD (B + (2 * (j : Int) + 1)).toNat ByteArray.empty = Z64 := h.oth _ (by omega) (fun j' h1 h2 => by omega)
    have ho8 : opn 8 (hdB e j i cZ) = (ofInts (hdL e j i cZ), 0) := mkB_open (by omega) (by omega) (by rw [oi_size, hdL_len]; omega)
    have hH : isH (hdB e j i cZ) := by
      unfold isH
      rw [ho8]
      exact ⟨rfl, by show (ofInts (hdL e j i cZ)).size = 20; rw [oi_size, hdL_len]⟩
    obtain ⟨t1, t2, t3, t4⟩ := g_hd (e := e) (k := j) (i := i) (s := cZ) he (by omega) (by omega) cZ_r
    have hti : toInts (opn 8 (hdB e j i cZ)).1 = hdL e j i cZ := by rw [ho8]; exact toInts_ofInts (hdL_r _ _ _ _)
    rw [scn, rd_nil' hx, h4, rd_nil' hx2, hz]
    show (if (0 : Int) ≠ 0 then _ else if ¬ isH (hdB e j i cZ) ∨ g1 (toInts (opn 8 (hdB e j i cZ)).1) ≠ e ∨ g2 (toInts (opn 8 (hdB e j i cZ)).1) ≠ (j : Int) ∨ g3 (toInts (opn 8 (hdB e j i cZ)).1) ≥ n then _ else if (0 : Int) ≠ 0 then _ else if cZ ≠ g4 (toInts (opn 8 (hdB e j i cZ)).1) then _ else scn n B e false l [] k (j + 1) (out ++ [(0, (e, (g3 (toInts (opn 8 (hdB e j i cZ)).1), Z64)))])) = _
    rw [hti, t1, t2, t3, t4, if_neg (by simp), if_neg (fun hh => by
      rcases hh with hh | hh | hh | hh
      · exact hh hH
      · exact hh rfl
      · exact hh rfl
      · omega), if_neg (by simp), if_neg (fun hh => hh rfl)]
    exact KI.scn_eq h hB he hn hc d (j + 1) k (by omega) (by omega) _ (by rw [List.append_assoc]; rw [h3] at ho; exact ho)

/-- One entry more. -/
theorem KI.more (h : KI n c B e m E l) (hB : 0 ≤ B) (hm : (m : Int) < c) {i : Int} (hi : 0 ≤ i ∧ i < n) : KI n c B e (m + 1) (E ++ [(0, (e, (i, Z64)))]) (put1 l (B + 2 * (m : Int), hdB e m i cZ)) := by
  have hl := h.len
  refine ⟨by rw [put1_len]; exact hl, by simp [h.el], by omega, fun j hj => ?_, fun x hx hno => ?_⟩
  · rcases Nat.lt_or_ge j m with h1 | h1
    · obtain ⟨i', q1, q2, q3, q4⟩ := h.ent j h1
      refine ⟨i', q1, q2, ?_, ?_⟩
      · rw [List.drop_append_of_le_length (by rw [h.el]; omega), List.drop_append_of_le_length (by rw [h.el]; omega), q3]; rfl
      · rw [put1]
        show (l.set (B + 2 * (m : Int)).toNat _).getD _ _ = _
        rw [List.getD_eq_getElem?_getD, List.getElem?_set_ne (by omega), ← List.getD_eq_getElem?_getD, q4]
    · have e : j = m := by omega
      subst e
      refine ⟨i, hi.1, hi.2, ?_, ?_⟩
      · have el := h.el
        rw [List.drop_left' el, List.drop_eq_nil_of_le (by simp; omega)]
      · rw [put1]
        show (l.set (B + 2 * (j : Int)).toNat _).getD _ _ = _
        rw [List.getD_eq_getElem?_getD, List.getElem?_set_self (by omega)]; rfl
  · rw [put1_len] at hx
    rw [put1]
    show (l.set (B + 2 * (m : Int)).toNat _).getD _ _ = _
    rw [List.getD_eq_getElem?_getD, List.getElem?_set_ne (by have := hno m (by omega); omega), ← List.getD_eq_getElem?_getD]
    exact h.oth x hx fun j hj => hno j (by omega)

/-- Zeros in the place of zeros. -/
theorem put_same {x : Int} {t : ByteArray} (hx : 0 ≤ x ∧ x < (l.length : Int)) (ht : l.getD x.toNat ByteArray.empty = t) : put1 l (x, t) = l := by
  rw [put1]
  show l.set x.toNat t = l
  have hlt : x.toNat < l.length := by omega
  have e : l[x.toNat] = t := by
    rw [List.getD_eq_getElem?_getD, List.getElem?_eq_getElem hlt] at ht
    exact ht
  rw [← e]
  exact List.set_getElem_self hlt

theorem svS_at {x t a d} (hx : 0 ≤ x ∧ x < (l.length : Int)) (ht : t.size = 64) :
    (a = -1 → svS x t a false d l [] = (0, -1, false, d + 1 + 1, put1 l (x, t), [])) ∧ (a = 0 → svS x t a false d l [] = (5, -1, true, d, l, [])) ∧
    (a = 1 → svS x t a false d l [] = (5, -1, true, d + 1, l, [(x, t)])) ∧ (2 ≤ a → svS x t a false d l [] = (0, a - 1 - 1, false, d + 1 + 1, put1 l (x, t), [])) := by
  have hw : ∀ a, a ≠ 0 → wS x t a false d l [] = (0, dec a, false, d + 1, [(x, t)]) := fun a ha => by
    rw [wS, if_neg (by simp), if_neg (fun hh => hh hx), if_neg (fun hh => hh ht), if_neg ha]; rfl
  refine ⟨?_, ?_, ?_, ?_⟩
  · rintro rfl
    rw [svS, hw _ (by omega), if_neg (by simp), fS, if_neg (by simp)]; rfl
  · rintro rfl
    have : wS x t 0 false d l [] = (5, -1, true, d, []) := by rw [wS, if_neg (by simp), if_neg (fun hh => hh hx), if_neg (fun hh => hh ht), if_pos rfl]
    rw [svS, this, if_pos (by simp)]
  · rintro rfl
    rw [svS, hw _ (by omega), if_neg (by simp), fS, if_neg (by simp)]; rfl
  · intro h2
    have e1 : dec a = a - 1 := by rw [dec, if_neg (by omega)]
    have e2 : dec (a - 1) = a - 1 - 1 := by rw [dec, if_neg (by omega)]
    rw [svS, hw _ (by omega), if_neg (by simp)]
    show fS (dec a) false (d + 1) l [(x, t)] = _
    rw [e1, fS, if_neg (by simp), if_neg (by omega), e2]; rfl
end

end Go.Proofs.YtlgopekjjkdkiaaGreatDoor.X
end

section
namespace Go.Proofs.YtlgopekjjkdkiaaGreatDoor.X
open Go Go.Proofs.YtlgopekjjkdkiaaGreatDoor.Ev Go.Proofs
set_option linter.unusedVariables false
set_option linter.unusedSectionVars false
/-! geom.level -/
noncomputable def f217_1_l3 {β : Type} (F : Nat) (v2 : Int) (v4 : Int) (v6 : List Int) (K0 : Int → Int → Option β) (K1 : Option β) : Nat → Int → Int → Option β
  | 0, _, _ => none
  | k + 1, v3, v5 => cond (decide (v5 < v4)) (cond (decide ((0 : Int) ≤ v5 ∧ v5 < ((v6.length : Nat) : Int))) (cond (decide (0 + v5.toNat < v6.length)) (f144_1 F v2 v3 (IntKind.i64.wrap ((IntKind.i64.wrap (v3 + (v6.getD (0 + v5.toNat) 0))) - 1)) (fun x7 => cond x7 (K0 v5 v3) (f217_1_l3 F v2 v4 v6 K0 K1 k (IntKind.i64.wrap (v3 + (v6.getD (0 + v5.toNat) 0))) (IntKind.i64.wrap (v5 + 1)))) ) none) none) (K1)
noncomputable def f217_1 {β : Type} (F : Nat) (a1 : Int) (a2 : Int) (a3 : Int) (a4 : Int) (a5 : Int) (K0 : Int → Int → Bool → Option β) : Option β := f164_1 F a1 a2 a3 a4 (fun x1 => f217_1_l3 F a5 ((x1.length : Nat) : Int) x1 (fun x8 x9 => K0 x8 x9 true) (K0 0 0 false) F 0 0) 
variable [FZ]
def sh217_1 : Sh := ⟨[.agg [.int .i64, .int .i64, .int .i64, .int .i64], .lf (.int .i64)], []⟩
abbrev Y217_1 := Int → Int → Int → Int → Int → (Int → Int → Bool → Option Res) → Option Res
noncomputable def A217_1 (g : Y217_1) (d : sh217_1.den) (K : KF) : Option Res := g d.1.1.1 d.1.1.2.1 d.1.1.2.2.1 d.1.1.2.2.2.1 d.1.2.1 (fun (y0 : Int) (y1 : Int) (y2 : Bool) => K [.lf (.int .i64 y0), .lf (.int .i64 y1), .lf (.bool y2)] [])
noncomputable def S217_1 (F : Nat) (o : Summ) : Summ := mkS sh217_1 (fun d K => A217_1 (f217_1 F) d K) o
noncomputable def code217 : Code := bodyOf Tryz.f217
noncomputable def b217_0 : Code := cB (cB (cR (cL (cR (cR (code217))))))
theorem scopes217 : scopesOf code217 = [] := by kernel_rfl
theorem ranges217 : rangesOf code217 = [] := by kernel_rfl
theorem loops217 : loopsOf code217 = [b217_0] := by kernel_rfl
theorem enter217 : ∀ args w, (callFunc 217 args).run Tryz.prog w = .ok (.enter 217 args) w := enter_of (fn := Tryz.f217) (by kernel_rfl) (by kernel_rfl) (by kernel_rfl)
noncomputable def T217_1 (F : Nat) : FuncId → Option Summ := tab [(144, (S144_1 F noS)), (164, (S164_1 F noS))]
noncomputable def TB217_1 (c144_1 : Y144_1) (c164_1 : Y164_1) : FuncId → Option Summ := tab [(144, (mkS sh144_1 (fun d K => A144_1 c144_1 d K) noS)), (164, (mkS sh164_1 (fun d K => A164_1 c164_1 d K) noS))]
def sh217_1_l3 : Sh := ⟨[.lf (.int .i64), .lf (.int .i64), .lf (.full 0), .lf (.int .i64), .lf (.int .i64)], [some ⟨some false, [.seq (.int .i64) 0]⟩]⟩
abbrev Y217_1_l3 := Int → Int → List Int → (Int → Int → Option Res) → (Option Res) → Nat → Int → Int → Option Res
noncomputable def A217_1_l3 (g : Y217_1_l3) (k : Nat) (d : sh217_1_l3.den) (K : KL) : Option Res := g d.1.1 d.1.2.2.2.1 d.2.1.2.1 (fun (y0 : Int) (y1 : Int) => K .ret [.tv (.lf (.int .i64 y0)), .tv (.lf (.int .i64 y1)), .tv (.lf (.bool true))] [some ⟨false, [.seq (.int .i64) 0 d.2.1.2.1]⟩]) (K (.exit 0) [] [some ⟨false, [.seq (.int .i64) 0 d.2.1.2.1]⟩]) k d.1.2.1 d.1.2.2.2.2.1
noncomputable def G217_1_3 (F k : Nat) : LoopS := mkG sh217_1_l3 [1, 7, 11, 12, 13] (outT [(.exit 0, []), (.ret, [4, 5, 6])]) (fun d K => A217_1_l3 (f217_1_l3 F) k d K) []
noncomputable def LT217_1 (F : Nat) : Nat → Option LoopS := ltab [(3, G217_1_3 F F)]
theorem L217_1_l3g (F k : Nat) (c144_1 : Y144_1) (c164_1 : Y164_1)  (l3 : Y217_1_l3) (X3 : LoopS) (d : sh217_1_l3.den) (K : KL) : A217_1_l3 ((fun (v2 : Int) (v4 : Int) (v6 : List Int) (K0 : (Int → Int → Option Res)) (K1 : (Option Res)) (k : Nat) (v3 : Int) (v5 : Int) => cond (decide (v5 < v4)) (cond (decide ((0 : Int) ≤ v5 ∧ v5 < ((v6.length : Nat) : Int))) (cond (decide (0 + v5.toNat < v6.length)) (c144_1 v2 v3 (IntKind.i64.wrap ((IntKind.i64.wrap (v3 + (v6.getD (0 + v5.toNat) 0))) - 1)) (fun x7 => cond x7 (K0 v5 v3) (l3 v2 v4 v6 K0 K1 k (IntKind.i64.wrap (v3 + (v6.getD (0 + v5.toNat) 0))) (IntKind.i64.wrap (v5 + 1)))) ) none) none) (K1))) k d K = roundOf Tryz.prog (TB217_1 c144_1 c164_1) (xw []) 31 0 (ltab [(3, X3)]) (mkG sh217_1_l3 [1, 7, 11, 12, 13] (outT [(.exit 0, []), (.ret, [4, 5, 6])]) (fun d K => A217_1_l3 l3 k d K) []) b217_0 (encT sh217_1_l3.vs d.1) (encH sh217_1_l3.h d.2) K := by kernel_rfl
theorem L217_1_3 (F : Nat) : LoopOK Tryz.prog (T217_1 F) (xw []) 31 0 (LT217_1 F) (G217_1_3 F F) b217_0 :=
  loopOK_of (s := sh217_1_l3) (live := [1, 7, 11, 12, 13]) (out := (outT [(.exit 0, []), (.ret, [4, 5, 6])])) (mv := []) (fun k d K => A217_1_l3 (f217_1_l3 F) k d K) F (fun d K => by kernel_rfl)  (fun k d K => Eq.mp (by kernel_rfl) (L217_1_l3g F k (f144_1 F) (f164_1 F)  (f217_1_l3 F) (G217_1_3 F F) d K))
theorem E217_1g (F : Nat) (c144_1 : Y144_1) (c164_1 : Y164_1) (l3 : Y217_1_l3)  (d : sh217_1.den) (K : KF) : evBody Tryz.prog (TB217_1 c144_1 c164_1) (xw []) 31 0 (ltab [(3, mkG sh217_1_l3 [1, 7, 11, 12, 13] (outT [(.exit 0, []), (.ret, [4, 5, 6])]) (fun d K => A217_1_l3 l3 F d K) [])]) [] code217 Tryz.f217.results.toList (encT sh217_1.vs d.1) (encH sh217_1.h d.2) K = A217_1 (fun (a1 : Int) (a2 : Int) (a3 : Int) (a4 : Int) (a5 : Int) (K0 : (Int → Int → Bool → Option Res)) => c164_1 a1 a2 a3 a4 (fun x1 => l3 a5 ((x1.length : Nat) : Int) x1 (fun x8 x9 => K0 x8 x9 true) (K0 0 0 false) F 0 0) ) d K := by kernel_rfl
theorem E217_1 (F : Nat) (d : sh217_1.den) (K : KF) : evBody Tryz.prog (T217_1 F) (xw []) 31 0 (LT217_1 F) [] code217 Tryz.f217.results.toList (encT sh217_1.vs d.1) (encH sh217_1.h d.2) K = A217_1 (f217_1 F) d K := Eq.mp (by kernel_rfl) (E217_1g F (f144_1 F) (f164_1 F) (f217_1_l3 F)  d K)
theorem S217_1_ok (F : Nat) (o : Summ) (ho : SoundFn Tryz.prog 217 o) : SoundFn Tryz.prog 217 (S217_1 F o) :=
  soundFn_of (fn := Tryz.f217) (c := code217) rfl rfl (by kernel_rfl) (tab_cons (S144_1_ok F _ (noS_sound enter144)) (tab_cons (S164_1_ok F _ (noS_sound enter164)) tab_nil)) (by kernel_rfl) (by kernel_rfl) ho (by rw [loops217]; exact (loopsOK_cons (by kernel_rfl) (L217_1_3 F) loopsOK_nil)) (by rw [scopes217]; exact scopesOK_nil) (by rw [ranges217]; exact rangesOK_nil) (E217_1 F)
end Go.Proofs.YtlgopekjjkdkiaaGreatDoor.X
end

section
namespace Go.Proofs.YtlgopekjjkdkiaaGreatDoor.X
open Go Go.Proofs.YtlgopekjjkdkiaaGreatDoor.Ev Go.Proofs
set_option linter.unusedVariables false
set_option linter.unusedSectionVars false
/-! geom.Children -/
noncomputable def f201_1_l7 {β : Type} (F : Nat) (v5 : Int) (v6 : Int) (v7 : Int) (v8 : Int) (v10 : Int) (v11 : Int) (v12 : Int) (v13 : Int) (K0 : List Int → Option β) : Nat → Int → List Int → Option β
  | 0, _, _ => none
  | k + 1, v9, v14 => cond (decide (v9 < v8)) (cond (decide (IntKind.i64.wrap ((IntKind.i64.wrap ((IntKind.i64.wrap (v5 - v6)) * v11)) + v9) < v7)) (cond (decide ((v14.length + 1) * 8 ≤ 70368744177664)) (f201_1_l7 F v5 v6 v7 v8 v10 v11 v12 v13 K0 k (IntKind.i64.wrap (v9 + 1)) (v14 ++ [IntKind.i64.wrap ((IntKind.i64.wrap (v6 - v7)) + (IntKind.i64.wrap ((IntKind.i64.wrap ((IntKind.i64.wrap (v5 - v6)) * v11)) + v9)))])) none) (f201_1_l7 F v5 v6 v7 v8 v10 v11 v12 v13 K0 k (IntKind.i64.wrap (v9 + 1)) v14)) (K0 v14)
noncomputable def f201_1 {β : Type} (F : Nat) (a1 : Int) (a2 : Int) (a3 : Int) (a4 : Int) (a5 : Int) (K0 : List Int → Option β) : Option β := f217_1 F a1 a2 a3 a4 a5 (fun x1 x2 x3 => cond (!x3) (K0 []) (cond (x1 == 0) (K0 []) (f164_1 F a1 a2 a3 a4 (fun x4 => cond (decide ((0 : Int) ≤ IntKind.i64.wrap (x1 - 1) ∧ IntKind.i64.wrap (x1 - 1) < ((x4.length : Nat) : Int))) (cond (decide (0 + ((IntKind.i64.wrap (x1 - 1)).toNat) < x4.length)) (f201_1_l7 F a5 x2 (x4.getD (0 + ((IntKind.i64.wrap (x1 - 1)).toNat)) 0) a2 a1 a2 a3 a4 (fun x15 => K0 x15) F 0 []) none) none) ))) 
variable [FZ]
def sh201_1 : Sh := ⟨[.agg [.int .i64, .int .i64, .int .i64, .int .i64], .lf (.int .i64)], []⟩
abbrev Y201_1 := Int → Int → Int → Int → Int → (List Int → Option Res) → Option Res
noncomputable def A201_1 (g : Y201_1) (d : sh201_1.den) (K : KF) : Option Res := g d.1.1.1 d.1.1.2.1 d.1.1.2.2.1 d.1.1.2.2.2.1 d.1.2.1 (fun (y0 : List Int) => K [.lf (.full 0)] [some ⟨false, [.seq (.int .i64) 0 y0]⟩])
noncomputable def S201_1 (F : Nat) (o : Summ) : Summ := mkS sh201_1 (fun d K => A201_1 (f201_1 F) d K) o
noncomputable def code201 : Code := bodyOf Tryz.f201
noncomputable def b201_0 : Code := cB (cB (cR (cL (cR (cR (cR (cR (cR (code201)))))))))
theorem scopes201 : scopesOf code201 = [] := by kernel_rfl
theorem ranges201 : rangesOf code201 = [] := by kernel_rfl
theorem loops201 : loopsOf code201 = [b201_0] := by kernel_rfl
theorem enter201 : ∀ args w, (callFunc 201 args).run Tryz.prog w = .ok (.enter 201 args) w := enter_of (fn := Tryz.f201) (by kernel_rfl) (by kernel_rfl) (by kernel_rfl)
noncomputable def T201_1 (F : Nat) : FuncId → Option Summ := tab [(164, (S164_1 F noS)), (217, (S217_1 F noS))]
noncomputable def TB201_1 (c164_1 : Y164_1) (c217_1 : Y217_1) : FuncId → Option Summ := tab [(164, (mkS sh164_1 (fun d K => A164_1 c164_1 d K) noS)), (217, (mkS sh217_1 (fun d K => A217_1 c217_1 d K) noS))]
def sh201_1_l7 : Sh := ⟨[.lf (.int .i64), .lf (.ptr 0 0), .lf (.int .i64), .lf (.int .i64), .lf (.full 1), .lf (.int .i64), .lf (.int .i64)], [some ⟨some false, [.int .i64, .int .i64, .int .i64, .int .i64]⟩, some ⟨some false, [.seq (.int .i64) 0]⟩]⟩
abbrev Y201_1_l7 := Int → Int → Int → Int → Int → Int → Int → Int → (List Int → Option Res) → Nat → Int → List Int → Option Res
noncomputable def A201_1_l7 (g : Y201_1_l7) (k : Nat) (d : sh201_1_l7.den) (K : KL) : Option Res := g d.1.1 d.1.2.2.1 d.1.2.2.2.1 d.1.2.2.2.2.2.1 d.2.1.2.1 d.2.1.2.2.1 d.2.1.2.2.2.1 d.2.1.2.2.2.2.1 (fun (y4 : List Int) => K (.exit 0) [.tv (.lf (.full 1))] [some ⟨false, [.int .i64 d.2.1.2.1, .int .i64 d.2.1.2.2.1, .int .i64 d.2.1.2.2.2.1, .int .i64 d.2.1.2.2.2.2.1]⟩, some ⟨false, [.seq (.int .i64) 0 y4]⟩]) k d.1.2.2.2.2.2.2.1 d.2.2.1.2.1
noncomputable def G201_1_7 (F k : Nat) : LoopS := mkG sh201_1_l7 [1, 2, 6, 8, 9, 32, 33] (outT [(.exit 0, [9])]) (fun d K => A201_1_l7 (f201_1_l7 F) k d K) []
noncomputable def LT201_1 (F : Nat) : Nat → Option LoopS := ltab [(7, G201_1_7 F F)]
theorem L201_1_l7g (F k : Nat) (c164_1 : Y164_1) (c217_1 : Y217_1)  (l7 : Y201_1_l7) (X7 : LoopS) (d : sh201_1_l7.den) (K : KL) : A201_1_l7 ((fun (v5 : Int) (v6 : Int) (v7 : Int) (v8 : Int) (v10 : Int) (v11 : Int) (v12 : Int) (v13 : Int) (K0 : (List Int → Option Res)) (k : Nat) (v9 : Int) (v14 : List Int) => cond (decide (v9 < v8)) (cond (decide (IntKind.i64.wrap ((IntKind.i64.wrap ((IntKind.i64.wrap (v5 - v6)) * v11)) + v9) < v7)) (cond (decide ((v14.length + 1) * 8 ≤ 70368744177664)) (l7 v5 v6 v7 v8 v10 v11 v12 v13 K0 k (IntKind.i64.wrap (v9 + 1)) (v14 ++ [IntKind.i64.wrap ((IntKind.i64.wrap (v6 - v7)) + (IntKind.i64.wrap ((IntKind.i64.wrap ((IntKind.i64.wrap (v5 - v6)) * v11)) + v9)))])) none) (l7 v5 v6 v7 v8 v10 v11 v12 v13 K0 k (IntKind.i64.wrap (v9 + 1)) v14)) (K0 v14))) k d K = roundOf Tryz.prog (TB201_1 c164_1 c217_1) (xw []) 57 0 (ltab [(7, X7)]) (mkG sh201_1_l7 [1, 2, 6, 8, 9, 32, 33] (outT [(.exit 0, [9])]) (fun d K => A201_1_l7 l7 k d K) []) b201_0 (encT sh201_1_l7.vs d.1) (encH sh201_1_l7.h d.2) K := by kernel_rfl
theorem L201_1_7 (F : Nat) : LoopOK Tryz.prog (T201_1 F) (xw []) 57 0 (LT201_1 F) (G201_1_7 F F) b201_0 :=
  loopOK_of (s := sh201_1_l7) (live := [1, 2, 6, 8, 9, 32, 33]) (out := (outT [(.exit 0, [9])])) (mv := []) (fun k d K => A201_1_l7 (f201_1_l7 F) k d K) F (fun d K => by kernel_rfl)  (fun k d K => Eq.mp (by kernel_rfl) (L201_1_l7g F k (f164_1 F) (f217_1 F)  (f201_1_l7 F) (G201_1_7 F F) d K))
theorem E201_1g (F : Nat) (c164_1 : Y164_1) (c217_1 : Y217_1) (l7 : Y201_1_l7)  (d : sh201_1.den) (K : KF) : evBody Tryz.prog (TB201_1 c164_1 c217_1) (xw []) 57 0 (ltab [(7, mkG sh201_1_l7 [1, 2, 6, 8, 9, 32, 33] (outT [(.exit 0, [9])]) (fun d K => A201_1_l7 l7 F d K) [])]) [] code201 Tryz.f201.results.toList (encT sh201_1.vs d.1) (encH sh201_1.h d.2) K = A201_1 (fun (a1 : Int) (a2 : Int) (a3 : Int) (a4 : Int) (a5 : Int) (K0 : (List Int → Option Res)) => c217_1 a1 a2 a3 a4 a5 (fun x1 x2 x3 => cond (!x3) (K0 []) (cond (x1 == 0) (K0 []) (c164_1 a1 a2 a3 a4 (fun x4 => cond (decide ((0 : Int) ≤ IntKind.i64.wrap (x1 - 1) ∧ IntKind.i64.wrap (x1 - 1) < ((x4.length : Nat) : Int))) (cond (decide (0 + ((IntKind.i64.wrap (x1 - 1)).toNat) < x4.length)) (l7 a5 x2 (x4.getD (0 + ((IntKind.i64.wrap (x1 - 1)).toNat)) 0) a2 a1 a2 a3 a4 (fun x15 => K0 x15) F 0 []) none) none) ))) ) d K := by kernel_rfl
theorem E201_1 (F : Nat) (d : sh201_1.den) (K : KF) : evBody Tryz.prog (T201_1 F) (xw []) 57 0 (LT201_1 F) [] code201 Tryz.f201.results.toList (encT sh201_1.vs d.1) (encH sh201_1.h d.2) K = A201_1 (f201_1 F) d K := Eq.mp (by kernel_rfl) (E201_1g F (f164_1 F) (f217_1 F) (f201_1_l7 F)  d K)
theorem S201_1_ok (F : Nat) (o : Summ) (ho : SoundFn Tryz.prog 201 o) : SoundFn Tryz.prog 201 (S201_1 F o) :=
  soundFn_of (fn := Tryz.f201) (c := code201) rfl rfl (by kernel_rfl) (tab_cons (S164_1_ok F _ (noS_sound enter164)) (tab_cons (S217_1_ok F _ (noS_sound enter217)) tab_nil)) (by kernel_rfl) (by kernel_rfl) ho (by rw [loops201]; exact (loopsOK_cons (by kernel_rfl) (L201_1_7 F) loopsOK_nil)) (by rw [scopes201]; exact scopesOK_nil) (by rw [ranges201]; exact rangesOK_nil) (E201_1 F)
end Go.Proofs.YtlgopekjjkdkiaaGreatDoor.X
end

section
namespace Go.Proofs.YtlgopekjjkdkiaaGreatDoor.X
open Go Go.Proofs.YtlgopekjjkdkiaaGreatDoor.Ev Go.Proofs
set_option linter.unusedVariables false
set_option linter.unusedSectionVars false
/-! pentimentoref07.Children -/
noncomputable def f165_1_l10 {β : Type} (F : Nat) (v10 : Int) (v11 : Int) (v12 : Int) (v13 : Int) (v15 : Int) (v16 : Int) (v17 : Int) (v18 : Int) (v19 : List Int) (K0 : List Int → Option β) : Nat → Int → List Int → Option β
  | 0, _, _ => none
  | k + 1, v14, v20 => cond (decide (v14 < v16)) (cond (decide ((0 : Int) ≤ v12 ∧ v12 < ((v19.length : Nat) : Int))) (cond (decide (0 + v12.toNat < v19.length)) (cond (decide (IntKind.i64.wrap ((IntKind.i64.wrap ((IntKind.i64.wrap (v10 - v13)) * v16)) + v14) < v19.getD (0 + v12.toNat) 0)) (cond (decide ((v20.length + 1) * 8 ≤ 70368744177664)) (f165_1_l10 F v10 v11 v12 v13 v15 v16 v17 v18 v19 K0 k (IntKind.i64.wrap (v14 + 1)) (v20 ++ [IntKind.i64.wrap (v11 + (IntKind.i64.wrap ((IntKind.i64.wrap ((IntKind.i64.wrap (v10 - v13)) * v16)) + v14)))])) none) (f165_1_l10 F v10 v11 v12 v13 v15 v16 v17 v18 v19 K0 k (IntKind.i64.wrap (v14 + 1)) v20)) none) none) (K0 v20)
noncomputable def f165_1_l4 {β : Type} (F : Nat) (v2 : Int) (v5 : Int) (v6 : Int) (v7 : Int) (v8 : Int) (v9 : List Int) (K0 : List Int → Option β) (K1 : Option β) : Nat → Int → Int → Option β
  | 0, _, _ => none
  | k + 1, v3, v4 => cond (decide (IntKind.i64.wrap (v4 + 1) < ((v9.length : Nat) : Int))) (cond (decide ((0 : Int) ≤ v4 ∧ v4 < ((v9.length : Nat) : Int))) (cond (decide (0 + v4.toNat < v9.length)) (cond (decide (v2 ≥ IntKind.i64.wrap (v3 + (v9.getD (0 + v4.toNat) 0)))) (cond (decide ((0 : Int) ≤ IntKind.i64.wrap (v4 + 1) ∧ IntKind.i64.wrap (v4 + 1) < ((v9.length : Nat) : Int))) (cond (decide (0 + ((IntKind.i64.wrap (v4 + 1)).toNat) < v9.length)) (cond (decide (v2 < IntKind.i64.wrap ((IntKind.i64.wrap (v3 + (v9.getD (0 + v4.toNat) 0))) + (v9.getD (0 + ((IntKind.i64.wrap (v4 + 1)).toNat)) 0)))) (f165_1_l10 F v2 v3 v4 (IntKind.i64.wrap (v3 + (v9.getD (0 + v4.toNat) 0))) v5 v6 v7 v8 v9 (fun x21 => K0 x21) F 0 []) (f165_1_l4 F v2 v5 v6 v7 v8 v9 K0 K1 k (IntKind.i64.wrap (v3 + (v9.getD (0 + v4.toNat) 0))) (IntKind.i64.wrap (v4 + 1)))) none) none) (f165_1_l4 F v2 v5 v6 v7 v8 v9 K0 K1 k (IntKind.i64.wrap (v3 + (v9.getD (0 + v4.toNat) 0))) (IntKind.i64.wrap (v4 + 1)))) none) none) (K1)
noncomputable def f165_1 {β : Type} (F : Nat) (a1 : Int) (a2 : Int) (a3 : Int) (a4 : Int) (a5 : Int) (K0 : List Int → Option β) : Option β := f98_1 F a1 a2 a3 a4 (fun x1 => f165_1_l4 F a5 a1 a2 a3 a4 x1 (fun x22 => K0 x22) (K0 []) F 0 0) 
variable [FZ]
def sh165_1 : Sh := ⟨[.agg [.int .i64, .int .i64, .int .i64, .int .i64], .lf (.int .i64)], []⟩
abbrev Y165_1 := Int → Int → Int → Int → Int → (List Int → Option Res) → Option Res
noncomputable def A165_1 (g : Y165_1) (d : sh165_1.den) (K : KF) : Option Res := g d.1.1.1 d.1.1.2.1 d.1.1.2.2.1 d.1.1.2.2.2.1 d.1.2.1 (fun (y0 : List Int) => K [.lf (.full 0)] [some ⟨false, [.seq (.int .i64) 0 y0]⟩])
noncomputable def S165_1 (F : Nat) (o : Summ) : Summ := mkS sh165_1 (fun d K => A165_1 (f165_1 F) d K) o
noncomputable def code165 : Code := bodyOf Tryz.f165
noncomputable def b165_0 : Code := cB (cB (cR (cL (cR (cR (cR (code165)))))))
noncomputable def b165_1 : Code := cB (cB (cR (cL (cR (cT (cR (cL (cR (cB (cL (cR (cB (cB (cR (cL (cR (cR (cR (code165)))))))))))))))))))
theorem scopes165 : scopesOf code165 = [] := by kernel_rfl
theorem ranges165 : rangesOf code165 = [] := by kernel_rfl
theorem loops165 : loopsOf code165 = [b165_0, b165_1] := by kernel_rfl
theorem enter165 : ∀ args w, (callFunc 165 args).run Tryz.prog w = .ok (.enter 165 args) w := enter_of (fn := Tryz.f165) (by kernel_rfl) (by kernel_rfl) (by kernel_rfl)
noncomputable def T165_1 (F : Nat) : FuncId → Option Summ := tab [(98, (S98_1 F noS))]
noncomputable def TB165_1 (c98_1 : Y98_1) : FuncId → Option Summ := tab [(98, (mkS sh98_1 (fun d K => A98_1 c98_1 d K) noS))]
def sh165_1_l10 : Sh := ⟨[.lf (.int .i64), .lf (.ptr 0 0), .lf (.full 1), .lf (.int .i64), .lf (.int .i64), .lf (.int .i64), .lf (.full 2), .lf (.int .i64)], [some ⟨some false, [.int .i64, .int .i64, .int .i64, .int .i64]⟩, some ⟨some false, [.seq (.int .i64) 0]⟩, some ⟨some false, [.seq (.int .i64) 0]⟩]⟩
abbrev Y165_1_l10 := Int → Int → Int → Int → Int → Int → Int → Int → List Int → (List Int → Option Res) → Nat → Int → List Int → Option Res
noncomputable def A165_1_l10 (g : Y165_1_l10) (k : Nat) (d : sh165_1_l10.den) (K : KL) : Option Res := g d.1.1 d.1.2.2.2.1 d.1.2.2.2.2.1 d.1.2.2.2.2.2.1 d.2.1.2.1 d.2.1.2.2.1 d.2.1.2.2.2.1 d.2.1.2.2.2.2.1 d.2.2.1.2.1 (fun (y5 : List Int) => K (.exit 2) [.tv (.lf (.full 2))] [some ⟨false, [.int .i64 d.2.1.2.1, .int .i64 d.2.1.2.2.1, .int .i64 d.2.1.2.2.2.1, .int .i64 d.2.1.2.2.2.2.1]⟩, some ⟨false, [.seq (.int .i64) 0 d.2.2.1.2.1]⟩, some ⟨false, [.seq (.int .i64) 0 y5]⟩]) k d.1.2.2.2.2.2.2.2.1 d.2.2.2.1.2.1
def sh165_1_l4 : Sh := ⟨[.lf (.int .i64), .lf (.ptr 0 0), .lf (.full 1), .lf (.int .i64), .lf (.int .i64)], [some ⟨some false, [.int .i64, .int .i64, .int .i64, .int .i64]⟩, some ⟨some false, [.seq (.int .i64) 0]⟩]⟩
abbrev Y165_1_l4 := Int → Int → Int → Int → Int → List Int → (List Int → Option Res) → (Option Res) → Nat → Int → Int → Option Res
noncomputable def A165_1_l4 (g : Y165_1_l4) (k : Nat) (d : sh165_1_l4.den) (K : KL) : Option Res := g d.1.1 d.2.1.2.1 d.2.1.2.2.1 d.2.1.2.2.2.1 d.2.1.2.2.2.2.1 d.2.2.1.2.1 (fun (y5 : List Int) => K .ret [.tv (.lf (.full 2))] [some ⟨false, [.int .i64 d.2.1.2.1, .int .i64 d.2.1.2.2.1, .int .i64 d.2.1.2.2.2.1, .int .i64 d.2.1.2.2.2.2.1]⟩, some ⟨false, [.seq (.int .i64) 0 d.2.2.1.2.1]⟩, some ⟨false, [.seq (.int .i64) 0 y5]⟩]) (K (.exit 0) [] [some ⟨false, [.int .i64 d.2.1.2.1, .int .i64 d.2.1.2.2.1, .int .i64 d.2.1.2.2.2.1, .int .i64 d.2.1.2.2.2.2.1]⟩, some ⟨false, [.seq (.int .i64) 0 d.2.2.1.2.1]⟩]) k d.1.2.2.2.1 d.1.2.2.2.2.1
noncomputable def G165_1_10 (F k : Nat) : LoopS := mkG sh165_1_l10 [1, 2, 5, 6, 7, 8, 9, 10] (outT [(.exit 2, [9])]) (fun d K => A165_1_l10 (f165_1_l10 F) k d K) []
noncomputable def G165_1_4 (F k : Nat) : LoopS := mkG sh165_1_l4 [1, 2, 5, 6, 7] (outT [(.exit 0, []), (.ret, [4])]) (fun d K => A165_1_l4 (f165_1_l4 F) k d K) []
noncomputable def LT165_1 (F : Nat) : Nat → Option LoopS := ltab [(10, G165_1_10 F F), (4, G165_1_4 F F)]
theorem L165_1_l10g (F k : Nat) (c98_1 : Y98_1)  (l10 : Y165_1_l10) (X10 : LoopS) (X4 : LoopS) (d : sh165_1_l10.den) (K : KL) : A165_1_l10 ((fun (v10 : Int) (v11 : Int) (v12 : Int) (v13 : Int) (v15 : Int) (v16 : Int) (v17 : Int) (v18 : Int) (v19 : List Int) (K0 : (List Int → Option Res)) (k : Nat) (v14 : Int) (v20 : List Int) => cond (decide (v14 < v16)) (cond (decide ((0 : Int) ≤ v12 ∧ v12 < ((v19.length : Nat) : Int))) (cond (decide (0 + v12.toNat < v19.length)) (cond (decide (IntKind.i64.wrap ((IntKind.i64.wrap ((IntKind.i64.wrap (v10 - v13)) * v16)) + v14) < v19.getD (0 + v12.toNat) 0)) (cond (decide ((v20.length + 1) * 8 ≤ 70368744177664)) (l10 v10 v11 v12 v13 v15 v16 v17 v18 v19 K0 k (IntKind.i64.wrap (v14 + 1)) (v20 ++ [IntKind.i64.wrap (v11 + (IntKind.i64.wrap ((IntKind.i64.wrap ((IntKind.i64.wrap (v10 - v13)) * v16)) + v14)))])) none) (l10 v10 v11 v12 v13 v15 v16 v17 v18 v19 K0 k (IntKind.i64.wrap (v14 + 1)) v20)) none) none) (K0 v20))) k d K = roundOf Tryz.prog (TB165_1 c98_1) (xw []) 69 0 (ltab [(10, X10), (4, X4)]) (mkG sh165_1_l10 [1, 2, 5, 6, 7, 8, 9, 10] (outT [(.exit 2, [9])]) (fun d K => A165_1_l10 l10 k d K) []) b165_1 (encT sh165_1_l10.vs d.1) (encH sh165_1_l10.h d.2) K := by kernel_rfl
theorem L165_1_10 (F : Nat) : LoopOK Tryz.prog (T165_1 F) (xw []) 69 0 (LT165_1 F) (G165_1_10 F F) b165_1 :=
  loopOK_of (s := sh165_1_l10) (live := [1, 2, 5, 6, 7, 8, 9, 10]) (out := (outT [(.exit 2, [9])])) (mv := []) (fun k d K => A165_1_l10 (f165_1_l10 F) k d K) F (fun d K => by kernel_rfl)  (fun k d K => Eq.mp (by kernel_rfl) (L165_1_l10g F k (f98_1 F)  (f165_1_l10 F) (G165_1_10 F F) (G165_1_4 F F) d K))
theorem L165_1_l4g (F k : Nat) (c98_1 : Y98_1) (l10 : Y165_1_l10) (l4 : Y165_1_l4) (X4 : LoopS) (d : sh165_1_l4.den) (K : KL) : A165_1_l4 ((fun (v2 : Int) (v5 : Int) (v6 : Int) (v7 : Int) (v8 : Int) (v9 : List Int) (K0 : (List Int → Option Res)) (K1 : (Option Res)) (k : Nat) (v3 : Int) (v4 : Int) => cond (decide (IntKind.i64.wrap (v4 + 1) < ((v9.length : Nat) : Int))) (cond (decide ((0 : Int) ≤ v4 ∧ v4 < ((v9.length : Nat) : Int))) (cond (decide (0 + v4.toNat < v9.length)) (cond (decide (v2 ≥ IntKind.i64.wrap (v3 + (v9.getD (0 + v4.toNat) 0)))) (cond (decide ((0 : Int) ≤ IntKind.i64.wrap (v4 + 1) ∧ IntKind.i64.wrap (v4 + 1) < ((v9.length : Nat) : Int))) (cond (decide (0 + ((IntKind.i64.wrap (v4 + 1)).toNat) < v9.length)) (cond (decide (v2 < IntKind.i64.wrap ((IntKind.i64.wrap (v3 + (v9.getD (0 + v4.toNat) 0))) + (v9.getD (0 + ((IntKind.i64.wrap (v4 + 1)).toNat)) 0)))) (l10 v2 v3 v4 (IntKind.i64.wrap (v3 + (v9.getD (0 + v4.toNat) 0))) v5 v6 v7 v8 v9 (fun x21 => K0 x21) F 0 []) (l4 v2 v5 v6 v7 v8 v9 K0 K1 k (IntKind.i64.wrap (v3 + (v9.getD (0 + v4.toNat) 0))) (IntKind.i64.wrap (v4 + 1)))) none) none) (l4 v2 v5 v6 v7 v8 v9 K0 K1 k (IntKind.i64.wrap (v3 + (v9.getD (0 + v4.toNat) 0))) (IntKind.i64.wrap (v4 + 1)))) none) none) (K1))) k d K = roundOf Tryz.prog (TB165_1 c98_1) (xw []) 69 0 (ltab [(10, mkG sh165_1_l10 [1, 2, 5, 6, 7, 8, 9, 10] (outT [(.exit 2, [9])]) (fun d K => A165_1_l10 l10 F d K) []), (4, X4)]) (mkG sh165_1_l4 [1, 2, 5, 6, 7] (outT [(.exit 0, []), (.ret, [4])]) (fun d K => A165_1_l4 l4 k d K) []) b165_0 (encT sh165_1_l4.vs d.1) (encH sh165_1_l4.h d.2) K := by kernel_rfl
theorem L165_1_4 (F : Nat) : LoopOK Tryz.prog (T165_1 F) (xw []) 69 0 (LT165_1 F) (G165_1_4 F F) b165_0 :=
  loopOK_of (s := sh165_1_l4) (live := [1, 2, 5, 6, 7]) (out := (outT [(.exit 0, []), (.ret, [4])])) (mv := []) (fun k d K => A165_1_l4 (f165_1_l4 F) k d K) F (fun d K => by kernel_rfl)  (fun k d K => Eq.mp (by kernel_rfl) (L165_1_l4g F k (f98_1 F) (f165_1_l10 F) (f165_1_l4 F) (G165_1_4 F F) d K))
theorem E165_1g (F : Nat) (c98_1 : Y98_1) (l4 : Y165_1_l4) (X10 : LoopS) (d : sh165_1.den) (K : KF) : evBody Tryz.prog (TB165_1 c98_1) (xw []) 69 0 (ltab [(10, X10), (4, mkG sh165_1_l4 [1, 2, 5, 6, 7] (outT [(.exit 0, []), (.ret, [4])]) (fun d K => A165_1_l4 l4 F d K) [])]) [] code165 Tryz.f165.results.toList (encT sh165_1.vs d.1) (encH sh165_1.h d.2) K = A165_1 (fun (a1 : Int) (a2 : Int) (a3 : Int) (a4 : Int) (a5 : Int) (K0 : (List Int → Option Res)) => c98_1 a1 a2 a3 a4 (fun x1 => l4 a5 a1 a2 a3 a4 x1 (fun x22 => K0 x22) (K0 []) F 0 0) ) d K := by kernel_rfl
theorem E165_1 (F : Nat) (d : sh165_1.den) (K : KF) : evBody Tryz.prog (T165_1 F) (xw []) 69 0 (LT165_1 F) [] code165 Tryz.f165.results.toList (encT sh165_1.vs d.1) (encH sh165_1.h d.2) K = A165_1 (f165_1 F) d K := Eq.mp (by kernel_rfl) (E165_1g F (f98_1 F) (f165_1_l4 F) (G165_1_10 F F) d K)
theorem S165_1_ok (F : Nat) (o : Summ) (ho : SoundFn Tryz.prog 165 o) : SoundFn Tryz.prog 165 (S165_1 F o) :=
  soundFn_of (fn := Tryz.f165) (c := code165) rfl rfl (by kernel_rfl) (tab_cons (S98_1_ok F _ (noS_sound enter98)) tab_nil) (by kernel_rfl) (by kernel_rfl) ho (by rw [loops165]; exact (loopsOK_cons (by kernel_rfl) (L165_1_4 F) (loopsOK_cons (by kernel_rfl) (L165_1_10 F) loopsOK_nil))) (by rw [scopes165]; exact scopesOK_nil) (by rw [ranges165]; exact rangesOK_nil) (E165_1 F)
end Go.Proofs.YtlgopekjjkdkiaaGreatDoor.X
end

section
/- Trees' shapes: parents and children over the list of the levels; any seat. -/
namespace Go.Proofs.YtlgopekjjkdkiaaGreatDoor.X
open Go Go.Proofs.YtlgopekjjkdkiaaGreatDoor.Ev
set_option linter.unusedSectionVars false
variable [FZ]
set_option linter.unusedVariables false
set_option linter.unusedSimpArgs false

/-- Children of a node, by the levels from a number on. -/
def kids (f : Int) (from_ a q : Int) : Nat → List Int
  | 0 => []
  | k + 1 => kids f from_ a q k ++ (if q * f + k < a then [from_ + (q * f + k)] else [])

def chl (f : Int) (node : Int) : Int → List Int → List Int
  | s, a :: b :: r => if s + a ≤ node ∧ node < s + a + b then kids f s a (node - (s + a)) f.toNat else chl f node (s + a) (b :: r)
  | _, _ => []

def par (f : Int) (node : Int) : Int → List Int → Int
  | s, a :: b :: r => if s ≤ node ∧ node < s + a then s + a + (node - s) / f else par f node (s + a) (b :: r)
  | _, _ => -1

/-- Each level is the one below it, over f, rounded up; the last one is 1. -/
def chain (f : Int) : List Int → Prop
  | a :: b :: r => 1 < a ∧ b = (a + f - 1) / f ∧ chain f (b :: r)
  | [a] => a = 1
  | [] => True

theorem chain_lv {f : Int} (hf : 2 ≤ f ∧ f ≤ 4) : ∀ (k : Nat) (n : Int), 1 ≤ n → n ≤ 128 → n < k → chain f (n :: lv k n f)
  | 0, n, h1, h2, h3 => by omega
  | k + 1, n, h1, h2, h3 => by
    simp only [lv]
    by_cases hn : n > 1
    · obtain ⟨e, g1, g2⟩ := step_eq hf hn h2
      rw [if_pos hn]
      exact ⟨hn, rfl, chain_lv hf k _ g1 (by omega) (by omega)⟩
    · rw [if_neg hn]
      show n = 1
      omega

/-- The level of a node: its number in the list and the number of the first node there. -/
def lvl (node : Int) : Int → Nat → List Int → Option (Nat × Int)
  | s, i, a :: r => if s ≤ node ∧ node < s + a then some (i, s) else lvl node (s + a) (i + 1) r
  | _, _, [] => none

/-- What is at hand in the middle of a list. -/
theorem at_drop {l r : List Int} {x : Int} {i : Nat} (hd : l.drop i = x :: r) : i < l.length ∧ l.getD (0 + (i : Int).toNat) 0 = x ∧ l.drop (i + 1) = r := by
  have hlen : l.length - i = r.length + 1 := by
    have := congrArg List.length hd
    simpa using this
  have hx : l[i]? = some x := by
    have := congrArg (·[0]?) hd
    simpa using this
  refine ⟨by omega, ?_, ?_⟩
  · rw [List.getD_eq_getElem?_getD]; simp [hx]
  · rw [← List.drop_drop, hd]; rfl

theorem level88 {β : Type} {F : Nat} {node : Int} {K0 : Int → Int → Option β} {K1 : Option β} (l : List Int) (hl : l.length ≤ 128) (hy : ∀ y ∈ l, 1 ≤ y ∧ y ≤ 128) :
    ∀ (r : List Int) (i k : Nat) (s : Int), l.drop i = r → i ≤ l.length → r.length < k → 0 ≤ s → s ≤ 128 * i →
      f217_1_l3 F node ((l.length : Nat) : Int) l K0 K1 k s (i : Int) = match lvl node s i r with | some (j, t) => K0 (j : Int) t | none => K1
  | [], i, k, s, hd, hi, hk, h0, h1 => by
    cases k with
    | zero => omega
    | succ k =>
      have : i = l.length := by
        have := congrArg List.length hd
        simp at this; omega
      subst this
      simp [f217_1_l3, lvl]
  | x :: r, i, k, s, hd, hi, hk, h0, h1 => by
    cases k with
    | zero => omega
    | succ k =>
      obtain ⟨hlt, hx, hdr⟩ := at_drop hd
      have hm := hy x (by
        have : x ∈ l.drop i := by rw [hd]; simp
        exact List.mem_of_mem_drop this)
      simp only [f217_1_l3, within87]
      have e1 : decide ((i : Int) < ((l.length : Nat) : Int)) = true := by simp; omega
      have e2 : decide ((0 : Int) ≤ (i : Int) ∧ (i : Int) < ((l.length : Nat) : Int)) = true := by simp; omega
      have e3 : decide (0 + (i : Int).toNat < l.length) = true := by simp; omega
      rw [e1, e2, e3, hx, cond_true, cond_true, cond_true, w64 (x := s + x) (by omega) (by omega), w64 (x := s + x - 1) (by omega) (by omega), w64 (x := (i : Int) + 1) (by omega) (by omega)]
      simp only [lvl]
      by_cases hn : s ≤ node ∧ node < s + x
      · have e : decide (node ≥ s ∧ node ≤ s + x - 1) = true := by simp; omega
        rw [e, cond_true, if_pos hn]
      · have e : decide (node ≥ s ∧ node ≤ s + x - 1) = false := by simp; omega
        rw [e, cond_false, if_neg hn, show ((i : Int) + 1) = ((i + 1 : Nat) : Int) by omega]
        exact level88 l hl hy r (i + 1) k (s + x) hdr (by omega) (by simpa using hk) (by omega) (by omega)

/-- What is known of a level that was found. -/
theorem lvl_spec {node : Int} : ∀ (r : List Int) (s : Int) (i j : Nat) (t : Int), lvl node s i r = some (j, t) → ∃ p a q, r = p ++ a :: q ∧ j = i + p.length ∧ t = s + sumI p ∧ t ≤ node ∧ node < t + a
  | [], s, i, j, t, h => by simp [lvl] at h
  | x :: r, s, i, j, t, h => by
    simp only [lvl] at h
    split at h
    · rename_i hn
      simp only [Option.some.injEq, Prod.mk.injEq] at h
      obtain ⟨rfl, rfl⟩ := h
      exact ⟨[], x, r, rfl, by simp, by simp [sumI], hn.1, hn.2⟩
    · obtain ⟨p, a, q, h1, h2, h3, h4, h5⟩ := lvl_spec r _ _ _ _ h
      refine ⟨x :: p, a, q, by rw [h1]; rfl, by simp; omega, by simp only [sumI]; omega, h4, h5⟩

theorem lvl_none {node : Int} : ∀ (r : List Int) (s : Int) (i : Nat), (∀ y ∈ r, 1 ≤ y) → (lvl node s i r = none ↔ ¬ (s ≤ node ∧ node < s + sumI r))
  | [], s, i, h => by
    simp only [lvl, sumI, true_iff]
    omega
  | x :: r, s, i, h => by
    have h0 := h x (by simp)
    have h1 : 0 ≤ sumI r := by
      have : ∀ (l : List Int), (∀ y ∈ l, 1 ≤ y) → 0 ≤ sumI l := by
        intro l
        induction l with
        | nil => intro _; simp [sumI]
        | cons a l ih => intro hl; have := hl a (by simp); have := ih fun y hy => hl y (by simp [hy]); simp only [sumI]; omega
      exact this r fun y hy => h y (by simp [hy])
    simp only [lvl, sumI]
    split
    · simp; omega
    · rw [lvl_none r _ _ fun y hy => h y (by simp [hy])]
      omega

theorem kids_len (f from_ a q : Int) : ∀ k, (kids f from_ a q k).length ≤ k
  | 0 => by simp [kids]
  | k + 1 => by
    have := kids_len f from_ a q k
    simp only [kids, List.length_append]
    split <;> simp <;> omega

theorem mul_small {f q : Int} (hf : 2 ≤ f ∧ f ≤ 4) (hq : 0 ≤ q ∧ q < 128) : 0 ≤ q * f ∧ q * f < 512 := by
  have : f = 2 ∨ f = 3 ∨ f = 4 := by omega
  rcases this with rfl | rfl | rfl <;> omega

/-- The inner loop of the code's Children. -/
theorem kids58 {β : Type} {F : Nat} {node t below f n c u : Int} {K : List Int → Option β} (hf : 2 ≤ f ∧ f ≤ 4) (ht : 0 ≤ t ∧ t ≤ 16384) (hb : 1 ≤ below ∧ below ≤ 128) (hn : t ≤ node ∧ node < t + 128) :
    ∀ (m i k : Nat), (i : Int) + m = f → m < k → f201_1_l7 F node t below f n f c u K k (i : Int) (kids f (t - below) below (node - t) i) = K (kids f (t - below) below (node - t) f.toNat)
  | 0, i, k, hi, hk => by
    cases k with
    | zero => omega
    | succ k =>
      have e : decide ((i : Int) < f) = false := by simp; omega
      simp only [f201_1_l7, e, cond_false]
      rw [show f.toNat = i by omega]
  | m + 1, i, k, hi, hk => by
    cases k with
    | zero => omega
    | succ k =>
      have e : decide ((i : Int) < f) = true := by simp; omega
      obtain ⟨q1, q2⟩ := mul_small hf (q := node - t) (by omega)
      have hl := kids_len f (t - below) below (node - t) i
      have e8 : decide (((kids f (t - below) below (node - t) i).length + 1) * 8 ≤ 70368744177664) = true := by simp; omega
      simp only [f201_1_l7]
      rw [e, cond_true, w64 (x := node - t) (by omega) (by omega), w64 (x := (node - t) * f) (by omega) (by omega), w64 (x := (node - t) * f + i) (by omega) (by omega), w64 (x := (i : Int) + 1) (by omega) (by omega), w64 (x := t - below) (by omega) (by omega),
        w64 (x := t - below + ((node - t) * f + i)) (by omega) (by omega), e8, cond_true]
      have hk' : kids f (t - below) below (node - t) (i + 1) = kids f (t - below) below (node - t) i ++ (if (node - t) * f + (i : Int) < below then [t - below + ((node - t) * f + (i : Int))] else []) := rfl
      have := kids58 (F := F) (n := n) (c := c) (u := u) (K := K) hf ht hb hn m (i + 1) k (by omega) (by omega)
      rw [hk'] at this
      rw [show ((i : Int) + 1) = ((i + 1 : Nat) : Int) by omega]
      by_cases h : (node - t) * f + (i : Int) < below
      · simp only [h, decide_true, cond_true]
        rw [if_pos h] at this
        exact this
      · simp only [h, decide_false, cond_false]
        rw [if_neg h, List.append_nil] at this
        exact this

/-- The inner loop of the document's Children. -/
theorem kids59 {β : Type} {F : Nat} {node s above a f n c u : Int} {l : List Int} {j : Nat} {K : List Int → Option β} (hf : 2 ≤ f ∧ f ≤ 4) (ht : 0 ≤ s ∧ s ≤ 16384) (hj : j < l.length) (hlj : l.getD (0 + (j : Int).toNat) 0 = a)
    (hb : 1 ≤ a ∧ a ≤ 128) (hab : above = s + a) (hn : above ≤ node ∧ node < above + 128) :
    ∀ (m i k : Nat), (i : Int) + m = f → m < k → f165_1_l10 F node s (j : Int) above n f c u l K k (i : Int) (kids f s a (node - above) i) = K (kids f s a (node - above) f.toNat)
  | 0, i, k, hi, hk => by
    cases k with
    | zero => omega
    | succ k =>
      have e : decide ((i : Int) < f) = false := by simp; omega
      simp only [f165_1_l10, e, cond_false]
      rw [show f.toNat = i by omega]
  | m + 1, i, k, hi, hk => by
    cases k with
    | zero => omega
    | succ k =>
      have e : decide ((i : Int) < f) = true := by simp; omega
      obtain ⟨q1, q2⟩ := mul_small hf (q := node - above) (by omega)
      have hl := kids_len f s a (node - above) i
      have e8 : decide (((kids f s a (node - above) i).length + 1) * 8 ≤ 70368744177664) = true := by simp; omega
      have e2 : decide ((0 : Int) ≤ (j : Int) ∧ (j : Int) < ((l.length : Nat) : Int)) = true := by simp; omega
      have e3 : decide (0 + (j : Int).toNat < l.length) = true := by simp; omega
      simp only [f165_1_l10]
      rw [e, cond_true, e2, cond_true, e3, cond_true, hlj, w64 (x := node - above) (by omega) (by omega), w64 (x := (node - above) * f) (by omega) (by omega), w64 (x := (node - above) * f + i) (by omega) (by omega), w64 (x := (i : Int) + 1) (by omega) (by omega),
        w64 (x := s + ((node - above) * f + i)) (by omega) (by omega), e8, cond_true]
      have hk' : kids f s a (node - above) (i + 1) = kids f s a (node - above) i ++ (if (node - above) * f + (i : Int) < a then [s + ((node - above) * f + (i : Int))] else []) := rfl
      have := kids59 (F := F) (n := n) (c := c) (u := u) (K := K) hf ht hj hlj hb hab hn m (i + 1) k (by omega) (by omega)
      rw [hk'] at this
      rw [show ((i : Int) + 1) = ((i + 1 : Nat) : Int) by omega]
      by_cases h : (node - above) * f + (i : Int) < a
      · simp only [h, decide_true, cond_true]
        rw [if_pos h] at this
        exact this
      · simp only [h, decide_false, cond_false]
        rw [if_neg h, List.append_nil] at this
        exact this

/-- A node's children, by the list of the levels. -/
def chs (f node : Int) (L : List Int) : List Int := match lvl node 0 0 L with
  | some (j + 1, t) => kids f (t - L.getD j 0) (L.getD j 0) (node - t) f.toNat
  | _ => []

theorem level88' {β : Type} {n f c u node : Int} {K0 : Int → Int → Bool → Option β} : f217_1 20000 n f c u node K0 = match lvl node 0 0 (levels n f c u) with | some (j, t) => K0 (j : Int) t true | none => K0 0 0 false := by
  obtain ⟨h1, h2⟩ := levels_ok n f c u
  simp only [f217_1, levels48]
  have := level88 (F := 20000) (node := node) (K0 := fun x8 x9 => K0 x8 x9 true) (K1 := K0 0 0 false) (levels n f c u) h1 h2 _ 0 20000 0 rfl (by omega) (by simp; omega) (by omega) (by omega)
  simp only [List.drop_zero] at this
  exact this

theorem mem_getD {l : List Int} {j : Nat} (h : j < l.length) : l.getD j 0 ∈ l := by
  rw [List.getD_eq_getElem?_getD, List.getElem?_eq_getElem h]; simp

theorem chs58 {β : Type} {n f c u node : Int} {K : List Int → Option β} : f201_1 20000 n f c u node K = K (chs f node (levels n f c u)) := by
  obtain ⟨h1, h2⟩ := levels_ok n f c u
  simp only [f201_1, level88', levels48, chs]
  cases hl : lvl node 0 0 (levels n f c u) with
  | none => rfl
  | some q =>
    obtain ⟨j, t⟩ := q
    obtain ⟨p, a, r, e1, e2, e3, e4, e5⟩ := lvl_spec _ _ _ _ _ hl
    have hrt : rt n f c u := by
      by_cases h : rt n f c u
      · exact h
      · simp [levels, h] at e1
    cases j with
    | zero => simp
    | succ j =>
      have hlen : (levels n f c u).length = p.length + 1 + r.length := by rw [e1]; simp; omega
      have ha := h2 a (by rw [e1]; simp)
      have hp := sumI_ok p fun y hy => h2 y (by rw [e1]; simp [hy])
      have hj : j < (levels n f c u).length := by omega
      have hm := h2 _ (mem_getD hj)
      have x0 : (((j + 1 : Nat) : Int) == 0) = false := by simp; omega
      have x1 : IntKind.i64.wrap (((j + 1 : Nat) : Int) - 1) = (j : Int) := by rw [w64 (by omega) (by omega)]; omega
      have x2 : decide ((0 : Int) ≤ (j : Int) ∧ (j : Int) < (((levels n f c u).length : Nat) : Int)) = true := by simp; omega
      have x3 : decide (0 + (j : Int).toNat < (levels n f c u).length) = true := by simp; omega
      have x4 : (levels n f c u).getD (0 + (j : Int).toNat) 0 = (levels n f c u).getD j 0 := by simp
      simp only [Bool.not_true, cond_false, x0, x1, x2, x3, x4, cond_true]
      have := kids58 (F := 20000) (n := n) (c := c) (u := u) (K := K) (node := node) (t := t) (below := (levels n f c u).getD j 0) hrt.2.1 (by omega) hm (by omega) f.toNat 0 20000 (by have := hrt.2.1; omega) (by have := hrt.2.1; omega)
      simpa [kids] using this

end Go.Proofs.YtlgopekjjkdkiaaGreatDoor.X
end

section
namespace Go.Proofs.YtlgopekjjkdkiaaGreatDoor.X
open Go Go.Proofs.YtlgopekjjkdkiaaGreatDoor.Ev Go.Proofs
set_option linter.unusedVariables false
set_option linter.unusedSectionVars false
/-! geom.Root -/
noncomputable def f106_1 {β : Type} (F : Nat) (a1 : Int) (a2 : Int) (a3 : Int) (a4 : Int) (K0 : Int → Option β) : Option β := f111_1 F a1 a2 a3 a4 (fun x1 => K0 (if IntKind.i64.wrap (x1 - 1) > 0 then IntKind.i64.wrap (x1 - 1) else 0)) 
variable [FZ]
def sh106_1 : Sh := ⟨[.agg [.int .i64, .int .i64, .int .i64, .int .i64]], []⟩
abbrev Y106_1 := Int → Int → Int → Int → (Int → Option Res) → Option Res
noncomputable def A106_1 (g : Y106_1) (d : sh106_1.den) (K : KF) : Option Res := g d.1.1.1 d.1.1.2.1 d.1.1.2.2.1 d.1.1.2.2.2.1 (fun (y0 : Int) => K [.lf (.int .i64 y0)] [])
noncomputable def S106_1 (F : Nat) (o : Summ) : Summ := mkS sh106_1 (fun d K => A106_1 (f106_1 F) d K) o
noncomputable def code106 : Code := bodyOf Tryz.f106
theorem scopes106 : scopesOf code106 = [] := by kernel_rfl
theorem ranges106 : rangesOf code106 = [] := by kernel_rfl
theorem loops106 : loopsOf code106 = [] := by kernel_rfl
theorem enter106 : ∀ args w, (callFunc 106 args).run Tryz.prog w = .ok (.enter 106 args) w := enter_of (fn := Tryz.f106) (by kernel_rfl) (by kernel_rfl) (by kernel_rfl)
noncomputable def T106_1 (F : Nat) : FuncId → Option Summ := tab [(111, (S111_1 F noS))]
noncomputable def TB106_1 (c111_1 : Y111_1) : FuncId → Option Summ := tab [(111, (mkS sh111_1 (fun d K => A111_1 c111_1 d K) noS))]
noncomputable def LT106_1 (F : Nat) : Nat → Option LoopS := ltab []
theorem E106_1g (F : Nat) (c111_1 : Y111_1)   (d : sh106_1.den) (K : KF) : evBody Tryz.prog (TB106_1 c111_1) (xw []) 7 0 (ltab []) [] code106 Tryz.f106.results.toList (encT sh106_1.vs d.1) (encH sh106_1.h d.2) K = A106_1 (fun (a1 : Int) (a2 : Int) (a3 : Int) (a4 : Int) (K0 : (Int → Option Res)) => c111_1 a1 a2 a3 a4 (fun x1 => K0 (if IntKind.i64.wrap (x1 - 1) > 0 then IntKind.i64.wrap (x1 - 1) else 0)) ) d K := by kernel_rfl
theorem E106_1 (F : Nat) (d : sh106_1.den) (K : KF) : evBody Tryz.prog (T106_1 F) (xw []) 7 0 (LT106_1 F) [] code106 Tryz.f106.results.toList (encT sh106_1.vs d.1) (encH sh106_1.h d.2) K = A106_1 (f106_1 F) d K := Eq.mp (by kernel_rfl) (E106_1g F (f111_1 F)   d K)
theorem S106_1_ok (F : Nat) (o : Summ) (ho : SoundFn Tryz.prog 106 o) : SoundFn Tryz.prog 106 (S106_1 F o) :=
  soundFn_of (fn := Tryz.f106) (c := code106) rfl rfl (by kernel_rfl) (tab_cons (S111_1_ok F _ (noS_sound enter111)) tab_nil) (by kernel_rfl) (by kernel_rfl) ho (by rw [loops106]; exact loopsOK_nil) (by rw [scopes106]; exact scopesOK_nil) (by rw [ranges106]; exact rangesOK_nil) (E106_1 F)
end Go.Proofs.YtlgopekjjkdkiaaGreatDoor.X
end

section
namespace Go.Proofs.YtlgopekjjkdkiaaGreatDoor.X
open Go Go.Proofs.YtlgopekjjkdkiaaGreatDoor.Ev Go.Proofs
set_option linter.unusedVariables false
set_option linter.unusedSectionVars false
/-! pentimentoref07.Root -/
noncomputable def f170_1 {β : Type} (F : Nat) (a1 : Int) (a2 : Int) (a3 : Int) (a4 : Int) (K0 : Int → Option β) : Option β := f36_1 F a1 a2 a3 a4 (fun x1 => K0 (if 0 > IntKind.i64.wrap (x1 - 1) then 0 else IntKind.i64.wrap (x1 - 1))) 
variable [FZ]
def sh170_1 : Sh := ⟨[.agg [.int .i64, .int .i64, .int .i64, .int .i64]], []⟩
abbrev Y170_1 := Int → Int → Int → Int → (Int → Option Res) → Option Res
noncomputable def A170_1 (g : Y170_1) (d : sh170_1.den) (K : KF) : Option Res := g d.1.1.1 d.1.1.2.1 d.1.1.2.2.1 d.1.1.2.2.2.1 (fun (y0 : Int) => K [.lf (.int .i64 y0)] [])
noncomputable def S170_1 (F : Nat) (o : Summ) : Summ := mkS sh170_1 (fun d K => A170_1 (f170_1 F) d K) o
noncomputable def code170 : Code := bodyOf Tryz.f170
theorem scopes170 : scopesOf code170 = [] := by kernel_rfl
theorem ranges170 : rangesOf code170 = [] := by kernel_rfl
theorem loops170 : loopsOf code170 = [] := by kernel_rfl
theorem enter170 : ∀ args w, (callFunc 170 args).run Tryz.prog w = .ok (.enter 170 args) w := enter_of (fn := Tryz.f170) (by kernel_rfl) (by kernel_rfl) (by kernel_rfl)
noncomputable def T170_1 (F : Nat) : FuncId → Option Summ := tab [(36, (S36_1 F noS))]
noncomputable def TB170_1 (c36_1 : Y36_1) : FuncId → Option Summ := tab [(36, (mkS sh36_1 (fun d K => A36_1 c36_1 d K) noS))]
noncomputable def LT170_1 (F : Nat) : Nat → Option LoopS := ltab []
theorem E170_1g (F : Nat) (c36_1 : Y36_1)   (d : sh170_1.den) (K : KF) : evBody Tryz.prog (TB170_1 c36_1) (xw []) 7 0 (ltab []) [] code170 Tryz.f170.results.toList (encT sh170_1.vs d.1) (encH sh170_1.h d.2) K = A170_1 (fun (a1 : Int) (a2 : Int) (a3 : Int) (a4 : Int) (K0 : (Int → Option Res)) => c36_1 a1 a2 a3 a4 (fun x1 => K0 (if 0 > IntKind.i64.wrap (x1 - 1) then 0 else IntKind.i64.wrap (x1 - 1))) ) d K := by kernel_rfl
theorem E170_1 (F : Nat) (d : sh170_1.den) (K : KF) : evBody Tryz.prog (T170_1 F) (xw []) 7 0 (LT170_1 F) [] code170 Tryz.f170.results.toList (encT sh170_1.vs d.1) (encH sh170_1.h d.2) K = A170_1 (f170_1 F) d K := Eq.mp (by kernel_rfl) (E170_1g F (f36_1 F)   d K)
theorem S170_1_ok (F : Nat) (o : Summ) (ho : SoundFn Tryz.prog 170 o) : SoundFn Tryz.prog 170 (S170_1 F o) :=
  soundFn_of (fn := Tryz.f170) (c := code170) rfl rfl (by kernel_rfl) (tab_cons (S36_1_ok F _ (noS_sound enter36)) tab_nil) (by kernel_rfl) (by kernel_rfl) ho (by rw [loops170]; exact loopsOK_nil) (by rw [scopes170]; exact scopesOK_nil) (by rw [ranges170]; exact rangesOK_nil) (E170_1 F)
end Go.Proofs.YtlgopekjjkdkiaaGreatDoor.X
end

section
/- Trees' shapes: document and code reckon the same children; any seat. -/
namespace Go.Proofs.YtlgopekjjkdkiaaGreatDoor.X
open Go Go.Proofs.YtlgopekjjkdkiaaGreatDoor.Ev
set_option linter.unusedSectionVars false
variable [FZ]
set_option linter.unusedVariables false
set_option linter.unusedSimpArgs false

theorem kids_mem0 {f s a q x : Int} : ∀ k : Nat, x ∈ kids f s a q k ↔ ∃ i : Nat, i < k ∧ q * f + i < a ∧ x = s + (q * f + i)
  | 0 => by simp [kids]
  | k + 1 => by
    simp only [kids, List.mem_append, kids_mem0 k]
    constructor
    · rintro (⟨i, h1, h2, h3⟩ | h)
      · exact ⟨i, by omega, h2, h3⟩
      · split at h
        · simp at h
          exact ⟨k, by omega, by assumption, h⟩
        · simp at h
    · rintro ⟨i, h1, h2, h3⟩
      by_cases hi : i = k
      · subst hi
        exact Or.inr (by rw [if_pos h2]; simp [h3])
      · exact Or.inl ⟨i, by omega, h2, h3⟩

theorem kids_mem {f s a q x : Int} (hf : 2 ≤ f ∧ f ≤ 4) (hq : 0 ≤ q) : x ∈ kids f s a q f.toNat ↔ s ≤ x ∧ x < s + a ∧ (x - s) / f = q := by
  rw [kids_mem0]
  have : f = 2 ∨ f = 3 ∨ f = 4 := by omega
  constructor
  · rintro ⟨i, h1, h2, h3⟩
    rcases this with rfl | rfl | rfl <;> simp at h1 <;> omega
  · rintro ⟨h1, h2, h3⟩
    refine ⟨((x - s) - q * f).toNat, ?_⟩
    rcases this with rfl | rfl | rfl <;> (simp only [Int.reduceToNat]; omega)

theorem kids_nodup {f s a q : Int} : ∀ k : Nat, (kids f s a q k).Pairwise (· < ·)
  | 0 => by simp [kids]
  | k + 1 => by
    simp only [kids]
    rw [List.pairwise_append]
    refine ⟨kids_nodup k, by split <;> simp, fun x hx y hy => ?_⟩
    obtain ⟨i, h1, h2, h3⟩ := (kids_mem0 k).1 hx
    split at hy
    · simp at hy; omega
    · simp at hy

def pos (L : List Int) : Prop := ∀ y ∈ L, 1 ≤ y ∧ y ≤ 128

theorem pos_tl {a : Int} {r : List Int} (h : pos (a :: r)) : (1 ≤ a ∧ a ≤ 128) ∧ pos r := ⟨h a (by simp), fun y hy => h y (by simp [hy])⟩

theorem sum_nn {L : List Int} (h : pos L) : 0 ≤ sumI L := by have := (sumI_ok L h).1; omega

theorem par_lt {f x : Int} : ∀ (L : List Int) (s : Int), pos L → x < s → par f x s L = -1
  | [], s, h, hx => rfl
  | [a], s, h, hx => rfl
  | a :: b :: r, s, h, hx => by
    have ha := (pos_tl h).1
    simp only [par]
    rw [if_neg (by omega)]
    exact par_lt (b :: r) _ (pos_tl h).2 (by omega)

theorem div_up {f a b y : Int} (hf : 2 ≤ f ∧ f ≤ 4) (hb : b = (a + f - 1) / f) (hy : 0 ≤ y ∧ y < a) : 0 ≤ y / f ∧ y / f < b := by
  have : f = 2 ∨ f = 3 ∨ f = 4 := by omega
  rcases this with rfl | rfl | rfl <;> omega

theorem par_bd {f x : Int} (hf : 2 ≤ f ∧ f ≤ 4) : ∀ (r : List Int) (a s : Int), pos (a :: r) → chain f (a :: r) → par f x s (a :: r) = -1 ∨ (s ≤ x ∧ x < par f x s (a :: r) ∧ s + a ≤ par f x s (a :: r) ∧ par f x s (a :: r) < s + sumI (a :: r))
  | [], a, s, h, hc => Or.inl rfl
  | b :: r, a, s, h, hc => by
    have ha := (pos_tl h).1
    have hb := (pos_tl (pos_tl h).2).1
    have hs := sum_nn (pos_tl (pos_tl h).2).2
    obtain ⟨h1, h2, h3⟩ := hc
    simp only [par]
    split
    · rename_i hx
      have := div_up (y := x - s) hf h2 (by omega)
      simp only [sumI]
      exact Or.inr (by omega)
    · rcases par_bd (x := x) hf r b (s + a) (pos_tl h).2 h3 with h4 | h4
      · exact Or.inl h4
      · refine Or.inr ?_
        simp only [sumI] at h4 ⊢
        omega

theorem mem_chl {f x k : Int} (hf : 2 ≤ f ∧ f ≤ 4) : ∀ (r : List Int) (a s : Int), pos (a :: r) → chain f (a :: r) → 0 ≤ s → 0 ≤ k → (x ∈ chl f k s (a :: r) ↔ par f x s (a :: r) = k)
  | [], a, s, h, hc, hs, hk => by simp [chl, par]; omega
  | b :: r, a, s, h, hc, hs, hk => by
    have ha := (pos_tl h).1
    have hb := (pos_tl (pos_tl h).2).1
    obtain ⟨h1, h2, h3⟩ := hc
    have hbd := par_bd (x := x) hf r b (s + a) (pos_tl h).2 h3
    have ih := mem_chl (x := x) (k := k) hf r b (s + a) (pos_tl h).2 h3 (by omega) hk
    simp only [par, chl]
    by_cases hq : s + a ≤ k ∧ k < s + a + b
    · rw [if_pos hq, kids_mem hf (by omega)]
      by_cases hx : s ≤ x ∧ x < s + a
      · rw [if_pos hx]; omega
      · rw [if_neg hx]; omega
    · rw [if_neg hq, ih]
      by_cases hx : s ≤ x ∧ x < s + a
      · rw [if_pos hx]
        have := div_up (y := x - s) hf h2 (by omega)
        have h0 := par_lt (f := f) (x := x) (b :: r) (s + a) (pos_tl h).2 (by omega)
        rw [h0]; omega
      · rw [if_neg hx]

theorem lvl_lt {x : Int} : ∀ (L : List Int) (s : Int) (i : Nat), pos L → x < s → lvl x s i L = none
  | [], _, _, _, _ => rfl
  | a :: r, s, i, h, hx => by
    have ha := (pos_tl h).1
    simp only [lvl]
    rw [if_neg (by omega)]
    exact lvl_lt r _ _ (pos_tl h).2 (by omega)

theorem chl_lvl {f x : Int} (L : List Int) : ∀ (r : List Int) (a s : Int) (i : Nat), L.drop i = a :: r →
    chl f x s (a :: r) = match lvl x (s + a) (i + 1) r with | some (j, t) => kids f (t - L.getD (j - 1) 0) (L.getD (j - 1) 0) (x - t) f.toNat | none => []
  | [], a, s, i, h => rfl
  | b :: r, a, s, i, h => by
    obtain ⟨h1, h2, h3⟩ := at_drop h
    have h4 : L.getD i 0 = a := by simpa using h2
    simp only [chl, lvl]
    by_cases hq : s + a ≤ x ∧ x < s + a + b
    · rw [if_pos hq, if_pos hq]
      simp only [Nat.add_sub_cancel, h4]
      rw [show s + a - a = s by omega]
    · rw [if_neg hq, if_neg hq]
      exact chl_lvl L r b (s + a) (i + 1) h3

theorem chs_chl {f x : Int} : ∀ L : List Int, pos L → chs f x L = chl f x 0 L
  | [], h => rfl
  | a :: r, h => by
    rw [chl_lvl (a :: r) r a 0 0 rfl]
    unfold chs
    simp only [lvl]
    by_cases hq : (0 : Int) ≤ x ∧ x < 0 + a
    · rw [if_pos hq, lvl_lt r _ _ (pos_tl h).2 (by omega)]
    · rw [if_neg hq]
      cases e : lvl x (0 + a) (0 + 1) r with
      | none => rfl
      | some v =>
        obtain ⟨j, t⟩ := v
        obtain ⟨p, a', q, e1, e2, e3, e4, e5⟩ := lvl_spec _ _ _ _ _ e
        cases j with
        | zero => omega
        | succ j => simp

theorem chs59l {β : Type} {x n f c u : Int} {K : List Int → Option β} (hf : 2 ≤ f ∧ f ≤ 4) {L : List Int} (hL : pos L) (hl : L.length ≤ 128) : ∀ (r : List Int) (i k : Nat) (s : Int), L.drop i = r → i ≤ L.length → r.length < k → 0 ≤ s → s ≤ 128 * i →
    f165_1_l4 20000 x n f c u L K (K []) k s (i : Int) = K (chl f x s r)
  | [], i, k, s, hd, hi, hk, h0, h1 => by
    cases k with
    | zero => omega
    | succ k =>
      have : i = L.length := by
        have := congrArg List.length hd
        simp at this; omega
      subst this
      simp only [f165_1_l4]
      rw [w64 (by omega) (by omega), cf (by omega)]
      rfl
  | [a], i, k, s, hd, hi, hk, h0, h1 => by
    cases k with
    | zero => omega
    | succ k =>
      have : i + 1 = L.length := by
        have := congrArg List.length hd
        simp at this; omega
      simp only [f165_1_l4]
      rw [w64 (by omega) (by omega), cf (by omega)]
      rfl
  | a :: b :: r, i, k, s, hd, hi, hk, h0, h1 => by
    cases k with
    | zero => omega
    | succ k =>
      obtain ⟨d1, d2, d3⟩ := at_drop hd
      obtain ⟨d4, d5, d6⟩ := at_drop d3
      have ha : 1 ≤ a ∧ a ≤ 128 := hL a (by
        have : a ∈ L.drop i := by rw [hd]; simp
        exact List.mem_of_mem_drop this)
      have hb : 1 ≤ b ∧ b ≤ 128 := hL b (by
        have : b ∈ L.drop (i + 1) := by rw [d3]; simp
        exact List.mem_of_mem_drop this)
      have e1 : IntKind.i64.wrap ((i : Int) + 1) = ((i + 1 : Nat) : Int) := by rw [w64 (by omega) (by omega)]; omega
      have ih := chs59l (x := x) (n := n) (c := c) (u := u) (K := K) hf hL hl (b :: r) (i + 1) k (s + a) d3 (by omega) (by simpa using hk) (by omega) (by omega)
      simp only [f165_1_l4]
      rw [e1, ct (by omega), ct (by omega), ct (by omega), d2, w64 (x := s + a) (by omega) (by omega)]
      simp only [chl]
      by_cases hq : x ≥ s + a
      · rw [ct hq, ct (by omega), ct (by omega), d5, w64 (x := s + a + b) (by omega) (by omega)]
        by_cases hq2 : x < s + a + b
        · rw [ct hq2, if_pos (by omega)]
          have := kids59 (F := 20000) (n := n) (c := c) (u := u) (K := K) (node := x) (s := s) (above := s + a) (a := a) (l := L) (j := i) hf (by omega) d1 d2 ha rfl (by omega) f.toNat 0 20000 (by omega) (by omega)
          simpa [kids] using this
        · rw [cf hq2, if_neg (by omega)]
          exact ih
      · rw [cf hq, if_neg (by omega)]
        exact ih

theorem lev_pos (n f c u : Int) : pos (levels n f c u) := (levels_ok n f c u).2

theorem levels_not {n f c u : Int} (h : ¬ rt n f c u) : levels n f c u = [] := by simp [levels, h]
theorem levels_cons {n f c u : Int} (h : rt n f c u) : ∃ r, levels n f c u = n :: r := ⟨_, by simp [levels, h]; rfl⟩

theorem lev_chain {n f c u : Int} : rt n f c u → chain f (levels n f c u) := fun h => by
  simp only [levels, h, if_true]
  have h1 := h.1
  exact chain_lv h.2.1 20000 n h1.1 h1.2 (by omega)

theorem nil59 {β : Type} {x n f c u : Int} {K : List Int → Option β} : ∀ k : Nat, 0 < k → f165_1_l4 20000 x n f c u [] K (K []) k 0 0 = K []
  | 0, h => by omega
  | k + 1, _ => by
    simp only [f165_1_l4]
    rw [w64 (by omega) (by omega), cf (by simp)]

theorem chs59 {β : Type} {n f c u x : Int} {K : List Int → Option β} : f165_1 20000 n f c u x K = K (chs f x (levels n f c u)) := by
  rw [chs_chl _ (lev_pos n f c u)]
  simp only [f165_1, levels49]
  by_cases h : rt n f c u
  · have := chs59l (x := x) (n := n) (c := c) (u := u) (K := K) h.2.1 (lev_pos n f c u) (levels_ok n f c u).1 _ 0 20000 0 rfl (by omega) (by have := (levels_ok n f c u).1; simp; omega) (by omega) (by omega)
    simpa using this
  · rw [levels_not h]
    exact nil59 20000 (by omega)

/-- The parent, by the levels. -/
def prn (n f c u x : Int) : Int := par f x 0 (levels n f c u)

theorem par_lvl {f x : Int} (hf : 2 ≤ f ∧ f ≤ 4) : ∀ (r : List Int) (a s : Int) (i : Nat), pos (a :: r) → chain f (a :: r) →
    par f x s (a :: r) = match lvl x s i (a :: r) with | some (j, t) => if x = s + sumI (a :: r) - 1 then -1 else t + (a :: r).getD (j - i) 0 + (x - t) / f | none => -1
  | [], a, s, i, h, hc => by
    have hc : a = 1 := hc
    subst hc
    have e1 : sumI [1] = 1 := rfl
    simp only [par, lvl]
    by_cases hx : s ≤ x ∧ x < s + 1
    · rw [if_pos hx]
      simp only
      rw [if_pos (by omega)]
    · rw [if_neg hx]
  | b :: r, a, s, i, h, hc => by
    have ha := (pos_tl h).1
    have hb := (pos_tl (pos_tl h).2).1
    have hs := sum_nn (pos_tl (pos_tl h).2).2
    obtain ⟨h1, h2, h3⟩ := hc
    rw [par, lvl]
    by_cases hx : s ≤ x ∧ x < s + a
    · have e1 : sumI (a :: b :: r) = a + (b + sumI r) := rfl
      rw [if_pos hx, if_pos hx]
      simp only
      rw [if_neg (by omega)]
      simp
    · rw [if_neg hx, if_neg hx, par_lvl hf r b (s + a) (i + 1) (pos_tl h).2 h3]
      cases e : lvl x (s + a) (i + 1) (b :: r) with
      | none => rfl
      | some v =>
        obtain ⟨j, t⟩ := v
        obtain ⟨p, a', q, e1, e2, e3, e4, e5⟩ := lvl_spec _ _ _ _ _ e
        simp only
        have g1 : s + sumI (a :: b :: r) - 1 = s + a + sumI (b :: r) - 1 := by simp only [sumI]; omega
        have g2 : (a :: b :: r).getD (j - i) 0 = (b :: r).getD (j - (i + 1)) 0 := by
          rw [show j - i = (j - (i + 1)) + 1 by omega]
          simp
        rw [g1, g2]

theorem chs_len (f x : Int) (L : List Int) : (chs f x L).length ≤ f.toNat := by
  unfold chs
  split
  · exact kids_len _ _ _ _ _
  · simp

theorem chs_mem {n f c u x k : Int} (h : rt n f c u) (hk : 0 ≤ k) : x ∈ chs f k (levels n f c u) ↔ prn n f c u x = k := by
  obtain ⟨r, hr⟩ := levels_cons h
  have hc := lev_chain h
  have hp := lev_pos n f c u
  rw [chs_chl _ hp, prn]
  rw [hr] at hc hp ⊢
  exact mem_chl h.2.1 r n 0 hp hc (by omega) hk

theorem prn_bd {n f c u x : Int} (h : rt n f c u) : prn n f c u x = -1 ∨ (0 ≤ x ∧ x < prn n f c u x ∧ n ≤ prn n f c u x ∧ prn n f c u x < nodes n f c u) := by
  obtain ⟨r, hr⟩ := levels_cons h
  have hc := lev_chain h
  have hp := lev_pos n f c u
  unfold nodes prn
  rw [hr] at hc hp ⊢
  have := par_bd (x := x) h.2.1 r n 0 hp hc
  omega

def root (n f c u : Int) : Int := if rt n f c u then nodes n f c u - 1 else 0

theorem root54 {β : Type} {n f c u : Int} {K : Int → Option β} : f106_1 20000 n f c u K = K (root n f c u) := by
  obtain ⟨n0, n1, n2, n3⟩ := nodes_ok n f c u
  simp only [f106_1, nodes50, root]
  rw [w64 (by omega) (by omega)]
  by_cases h : rt n f c u
  · have := n2 h
    rw [if_pos h]; congr 1; split <;> omega
  · rw [if_neg h, n3 h]; rfl

theorem root55 {β : Type} {n f c u : Int} {K : Int → Option β} : f170_1 20000 n f c u K = K (root n f c u) := by
  obtain ⟨n0, n1, n2, n3⟩ := nodes_ok n f c u
  simp only [f170_1, nodes51, root]
  rw [w64 (by omega) (by omega)]
  by_cases h : rt n f c u
  · have := n2 h
    rw [if_pos h]; congr 1; split <;> omega
  · rw [if_neg h, n3 h]; rfl

end Go.Proofs.YtlgopekjjkdkiaaGreatDoor.X
end

section
/- Trees' shapes: which nodes have children; any seat. -/
namespace Go.Proofs.YtlgopekjjkdkiaaGreatDoor.X
open Go Go.Proofs.YtlgopekjjkdkiaaGreatDoor.Ev
set_option linter.unusedSectionVars false
variable [FZ]
set_option linter.unusedVariables false
set_option linter.unusedSimpArgs false
theorem chl_ne {f k : Int} (hf : 2 ≤ f ∧ f ≤ 4) : ∀ (r : List Int) (a s : Int), pos (a :: r) → chain f (a :: r) → s + a ≤ k → k < s + sumI (a :: r) → chl f k s (a :: r) ≠ []
  | [], a, s, h, hc, h0, h1 => by
    have e1 : sumI [a] = a + 0 := rfl
    omega
  | b :: r, a, s, h, hc, h0, h1 => by
    obtain ⟨g1, g2, g3⟩ := hc
    have e1 : sumI (a :: b :: r) = a + sumI (b :: r) := rfl
    simp only [chl]
    by_cases hq : s + a ≤ k ∧ k < s + a + b
    · rw [if_pos hq]
      intro hn
      have hm := (kids_mem (f := f) (s := s) (a := a) (q := k - (s + a)) (x := s + (k - (s + a)) * f) hf (by omega)).2
      rw [hn] at hm
      have : f = 2 ∨ f = 3 ∨ f = 4 := by omega
      rcases this with rfl | rfl | rfl <;> exact List.not_mem_nil (hm (by omega))
    · rw [if_neg hq]
      exact chl_ne hf r b (s + a) (pos_tl h).2 g3 (by omega) (by omega)

theorem par_root {f x : Int} (hf : 2 ≤ f ∧ f ≤ 4) : ∀ (r : List Int) (a s : Int), pos (a :: r) → chain f (a :: r) → 0 ≤ s → s ≤ x → x < s + sumI (a :: r) → (par f x s (a :: r) = -1 ↔ x = s + sumI (a :: r) - 1)
  | [], a, s, h, hc, hs, h0, h1 => by
    have hc : a = 1 := hc
    subst hc
    have e1 : sumI [1] = 1 := rfl
    simp only [par, true_iff]
    omega
  | b :: r, a, s, h, hc, hs, h0, h1 => by
    have ha := (pos_tl h).1
    have hb := (pos_tl (pos_tl h).2).1
    have hn := sum_nn (pos_tl (pos_tl h).2).2
    have e1 : sumI (a :: b :: r) = a + sumI (b :: r) := rfl
    have e2 : sumI (b :: r) = b + sumI r := rfl
    obtain ⟨g1, g2, g3⟩ := hc
    simp only [par]
    by_cases hx : s ≤ x ∧ x < s + a
    · have hd := div_up (y := x - s) hf g2 (by omega)
      rw [if_pos hx]
      omega
    · rw [if_neg hx, par_root hf r b (s + a) (pos_tl h).2 g3 (by omega) (by omega) (by omega)]
      omega

theorem chs_empty {n f c u k : Int} (h : rt n f c u) (h0 : 0 ≤ k) (h1 : k < nodes n f c u) : (((chs f k (levels n f c u)).length : Int) == 0) = decide (k < n) := by
  by_cases hk : k < n
  · have : chs f k (levels n f c u) = [] := by
      apply List.eq_nil_iff_forall_not_mem.2
      intro x hx
      have := (chs_mem h h0).1 hx
      have := prn_bd (x := x) h
      omega
    simp [this, hk]
  · have : chs f k (levels n f c u) ≠ [] := by
      obtain ⟨r, hr⟩ := levels_cons h
      have hc := lev_chain h
      have hp := lev_pos n f c u
      unfold nodes at h1
      rw [chs_chl _ hp]
      rw [hr] at hc hp h1 ⊢
      exact chl_ne h.2.1 r n 0 hp hc (by omega) (by omega)
    have : (chs f k (levels n f c u)).length ≠ 0 := fun h => this (List.length_eq_zero_iff.1 h)
    simp only [hk, decide_false]
    simpa using this

theorem prn_root {n f c u x : Int} (h : rt n f c u) (h0 : 0 ≤ x) (h1 : x < nodes n f c u) : prn n f c u x = -1 ↔ x = nodes n f c u - 1 := by
  obtain ⟨r, hr⟩ := levels_cons h
  have hc := lev_chain h
  have hp := lev_pos n f c u
  unfold nodes at h1 ⊢
  unfold prn
  rw [hr] at hc hp h1 ⊢
  have := par_root (x := x) h.2.1 r n 0 hp hc (by omega) h0 (by omega)
  omega

theorem chs_sorted {n f c u k : Int} : (chs f k (levels n f c u)).Pairwise (· < ·) := by
  unfold chs
  split
  · exact kids_nodup _
  · exact List.Pairwise.nil

theorem n_le {n f c u : Int} (h : rt n f c u) : n ≤ nodes n f c u := by
  obtain ⟨r, hr⟩ := levels_cons h
  have hp := lev_pos n f c u
  unfold nodes
  rw [hr] at hp ⊢
  have := sum_nn (pos_tl hp).2
  simp only [sumI]; omega

theorem sum_up {f : Int} (hf : 2 ≤ f ∧ f ≤ 4) : ∀ (r : List Int) (a : Int), pos (a :: r) → chain f (a :: r) → sumI (a :: r) ≤ 3 * a - 2
  | [], a, h, hc => by
    have hc : a = 1 := hc
    subst hc
    decide
  | b :: r, a, h, hc => by
    obtain ⟨g1, g2, g3⟩ := hc
    have e1 : sumI (a :: b :: r) = a + sumI (b :: r) := rfl
    have ih := sum_up hf r b (pos_tl h).2 g3
    have : f = 2 ∨ f = 3 ∨ f = 4 := by omega
    rcases this with rfl | rfl | rfl <;> omega

theorem nodes_up {n f c u : Int} (h : rt n f c u) : nodes n f c u ≤ 384 := by
  obtain ⟨r, hr⟩ := levels_cons h
  have hc := lev_chain h
  have hp := lev_pos n f c u
  have h1 := h.1
  unfold nodes
  rw [hr] at hc hp ⊢
  have := sum_up h.2.1 r n hp hc
  omega

end Go.Proofs.YtlgopekjjkdkiaaGreatDoor.X
end

section
/- Sectors that are kept: the document's; lists of entries; what stays so of a disk. -/
namespace Go.Proofs.YtlgopekjjkdkiaaGreatDoor.X
open Go Go.Proofs.YtlgopekjjkdkiaaGreatDoor.Ev
set_option linter.unusedSectionVars false
variable [FZ]
set_option linter.unusedVariables false
set_option linter.unusedSimpArgs false

theorem dataR {β : Type} {n f c u i : Int} {K : Int → Option β} : f25_1 20000 n f c u i K = K (dat n f c u i) := by
  rw [f25_1, right47, dat]
  by_cases h : rt n f c u
  · have hn := h.1
    rw [decide_eq_true h, Bool.not_true, cond_false]
    by_cases h1 : i < 0
    · rw [ct h1, if_neg (fun hh => by omega)]
    · by_cases h2 : i ≥ n
      · rw [cf h1, ct h2, if_neg (fun hh => by omega)]
      · rw [cf h1, cf h2, if_pos ⟨h, by omega, by omega⟩, w64 (by omega) (by omega)]
  · rw [decide_eq_false h, Bool.not_false, cond_true, if_neg (fun hh => h hh.1)]

theorem areaR {β : Type} {n f c u s k : Int} (hs : s = 0 ∨ s = 1) {K : Int → Option β} : f138_1 20000 n f c u s k K = K (are n f c u (if s = 0 then 2 * c else 2 * u) k) := by
  have hno := nodes_ok n f c u
  rw [f138_1, right47, are]
  by_cases h : rt n f c u
  · have hn := h.1
    have hc := h.2.2.1
    have hu := h.2.2.2
    rw [decide_eq_true h, Bool.not_true, cond_false]
    by_cases h1 : k < 0
    · rw [ct h1, if_neg (fun hh => by omega)]
    · have e : ∀ K : Int → Option β, f84_1 20000 n f c u s K = K (if s = 0 then 2 * c else 2 * u) := by
        intro K
        rw [f84_1]
        rcases hs with rfl | rfl
        · rw [show ((0 : Int) == 0) = true from rfl, cond_true, if_pos rfl, w64 (by omega) (by omega)]
        · rw [show ((1 : Int) == 0) = false from rfl, cond_false, show ((1 : Int) == 1) = true from rfl, cond_true, if_neg (by omega), w64 (by omega) (by omega)]
      rw [cf h1, e]
      generalize hm : (if s = 0 then 2 * c else 2 * u) = m
      have hm2 : m ≤ 640 := by rw [← hm]; split <;> omega
      by_cases h2 : k ≥ m
      · rw [ct h2, if_neg (fun hh => by omega)]
      · rw [cf h2, if_pos ⟨h, by omega, by omega⟩, nodes51, w64 (x := 6 + n) (by omega) (by omega), w64 (x := 6 + n + nodes n f c u) (by omega) (by omega), w64 (by omega) (by omega)]
  · rw [decide_eq_false h, Bool.not_false, cond_true, if_neg (fun hh => h hh.1)]

theorem headR {β : Type} {e k i : Int} {old : ByteArray} (hk : 0 ≤ k ∧ k < 4294967296) (hi : 0 ≤ i ∧ i < 4294967296) (ho : old.size ≤ 100) {K : ByteArray → Option β} : f38_1 20000 8 (ofInts (b8 e)) k i old K = K (hdB e k i (crc (toInts old))) := by
  have s8 : (ofInts (b8 e)).size = 8 := by rw [oi_size]; rfl
  have s4 : ∀ n, (ofInts (b4 n)).size = 4 := fun n => by rw [oi_size]; rfl
  have hcr := crc_r (toInts old)
  have htl := toInts_size old
  have hbig := big60
  have he : ofInts (b8 e) ++ ofInts (b4 k) ++ ofInts (b4 i) ++ ofInts (b4 (crc (toInts old))) = ofInts (hdL e k i (crc (toInts old))) := by
    simp only [hdL, oiA]
    apply extB
    simp only [D_app, List.append_assoc]
  have hmk : mkR 8 (ofInts (hdL e k i (crc (toInts old)))) = (hdB e k i (crc (toInts old)), 0) := by rw [mkR, if_neg (by omega), if_neg (by rw [oi_size, hdL_len]; omega)]; rfl
  rw [f38_1, wu64 (x := k) (by omega) (by omega), text4, ct (by rw [s8, s4]; omega), wu64 (x := i) (by omega) (by omega), text4, ct (by simp only [app_size, s8, s4]; omega), crcR (by omega), wu64 (x := crc _) (by omega) (by omega), text4, ct (by simp only [app_size, s8, s4]; omega), he, makeR (by rw [oi_size, hdL_len]; omega), hmk]

/-- A write and a flush, then something more. -/
theorem svS_R2 {β : Type} {m k : Nat} {a d : Int} {b : Bool} {l : List ByteArray} {w : WL} {x : Int} {t : ByteArray} (h : DS m k a d l w) (hk : k < 299) {K0 : Int → Int → Bool → Int → List ByteArray → WL → Option β} {N : Int → Bool → Int → List ByteArray → WL → Option β} :
    f74_1 20000 x t a b d l w (fun e a b c w' => cond (e != 0) (K0 e a b c l w') (f143_1 20000 a b c l w' (fun e2 a2 b2 c2 l2 w2 => cond (e2 != 0) (K0 e2 a2 b2 c2 l2 w2) (N a2 b2 c2 l2 w2)))) =
      if (svS x t a b d l w).1 ≠ 0 then app K0 (svS x t a b d l w) else N (svS x t a b d l w).2.1 (svS x t a b d l w).2.2.1 (svS x t a b d l w).2.2.2.1 (svS x t a b d l w).2.2.2.2.1 (svS x t a b d l w).2.2.2.2.2 := by
  rw [writeR h]
  by_cases q : (wS x t a b d l w).1 = 0
  · have e : svS x t a b d l w = fS (wS x t a b d l w).2.1 (wS x t a b d l w).2.2.1 (wS x t a b d l w).2.2.2.1 l (wS x t a b d l w).2.2.2.2 := by rw [svS, if_neg (fun hh => hh q)]
    rw [e, bnf q, cond_false, flushR (by omega) (wS_ok h (by omega))]
    by_cases q2 : (fS (wS x t a b d l w).2.1 (wS x t a b d l w).2.2.1 (wS x t a b d l w).2.2.2.1 l (wS x t a b d l w).2.2.2.2).1 = 0
    · rw [bnf q2, cond_false, if_neg (fun hh => hh q2)]
    · rw [bnt q2, cond_true, if_pos q2]; rfl
  · have e : svS x t a b d l w = ((wS x t a b d l w).1, (wS x t a b d l w).2.1, (wS x t a b d l w).2.2.1, (wS x t a b d l w).2.2.2.1, l, (wS x t a b d l w).2.2.2.2) := by rw [svS, if_pos q]
    rw [e, if_pos q, bnt q, cond_true]; rfl

theorem layR {β : Type} {m q : Nat} {n f c u k a d : Int} {b : Bool} {l : List ByteArray} {w : WL} {hd old : ByteArray} (h : DS m q a d l w) (hq : q < 290) (hr : rt n f c u) (hk : 0 ≤ k ∧ k < c) {K : Int → Int → Bool → Int → List ByteArray → WL → Option β} :
    f137_1 20000 n f c u 0 k hd old a b d l w K =
      if (svS (6 + n + nodes n f c u + (2 * k + 1)) old a b d l w).1 ≠ 0 then app K (svS (6 + n + nodes n f c u + (2 * k + 1)) old a b d l w)
      else app K (svS (6 + n + nodes n f c u + 2 * k) hd (svS (6 + n + nodes n f c u + (2 * k + 1)) old a b d l w).2.1 (svS (6 + n + nodes n f c u + (2 * k + 1)) old a b d l w).2.2.1 (svS (6 + n + nodes n f c u + (2 * k + 1)) old a b d l w).2.2.2.1 (svS (6 + n + nodes n f c u + (2 * k + 1)) old a b d l w).2.2.2.2.1 (svS (6 + n + nodes n f c u + (2 * k + 1)) old a b d l w).2.2.2.2.2) := by
  have hc := hr.2.2.1
  rw [f137_1, areaR (.inl rfl), if_pos rfl, are, w64 (x := 2 * k) (by omega) (by omega), w64 (x := 2 * k + 1) (by omega) (by omega), if_pos (show rt n f c u ∧ 0 ≤ 2 * k + 1 ∧ 2 * k + 1 < 2 * c from ⟨hr, by omega, by omega⟩)]
  have h' := svS_ok (x := 6 + n + nodes n f c u + (2 * k + 1)) (t := old) (b := b) h (by omega)
  refine (svS_R2 (K0 := K) (N := fun a b d l w => f138_1 20000 n f c u 0 (2 * k) (fun x13 => f74_1 20000 x13 hd a b d l w (fun x14 x15 x16 x17 x18 => cond (x14 != 0) (K x14 x15 x16 x17 l x18) (f143_1 20000 x15 x16 x17 l x18 (fun x19 x20 x21 x22 x23 x24 => K x19 x20 x21 x22 x23 x24))))) h (by omega)).trans ?_
  by_cases q1 : (svS (6 + n + nodes n f c u + (2 * k + 1)) old a b d l w).1 = 0
  · rw [if_neg (fun hh => hh q1), if_neg (fun hh => hh q1), areaR (.inl rfl), if_pos rfl, are, if_pos (show rt n f c u ∧ 0 ≤ 2 * k ∧ 2 * k < 2 * c from ⟨hr, by omega, by omega⟩)]
    exact svS_R (K := K) h' (by omega)
  · rw [if_pos q1, if_pos q1]

theorem cwR {β : Type} {m q : Nat} {n f c u k e i a d : Int} {b : Bool} {l : List ByteArray} {w : WL} (h : DS m q a d l w) (hq : q < 290) (h64 : (rd (6 + i) b l w).1.size ≤ 100) {K : Int → Int → ByteArray → Int → Int → Bool → Int → List ByteArray → WL → Option β} :
    f70_1 20000 n f c u k e i a b d l w K = app9 K (cwS n f c u k e i a b d l w) := by
  rw [f70_1, right47, cwS]
  by_cases hr : rt n f c u
  · have hn := hr.1
    have hc := hr.2.2.1
    rw [decide_eq_true hr, Bool.not_true, cond_false, if_neg (fun hh => hh hr)]
    by_cases h1 : k < 0
    · rw [ct h1, if_pos (Or.inl h1)]; rfl
    · by_cases h2 : k ≥ c
      · rw [cf h1, ct h2, if_pos (Or.inr h2)]; rfl
      · rw [cf h1, cf h2, if_neg (show ¬ (k < 0 ∨ k ≥ c) by omega)]
        by_cases h3 : 0 ≤ i ∧ i < n
        · rw [cf (by omega), cf (by omega), if_neg (fun hh => hh h3), dataR, dat, if_pos ⟨hr, h3⟩, readR (by omega) h]
          by_cases h4 : (rd (6 + i) b l w).2 = 0
          · rw [bnf h4, cond_false, if_neg (fun hh => hh h4)]
            simp only [amb_self]
            rw [text8, headR (by omega) (by omega) h64, layR h (by omega) hr (by omega)]
            by_cases h5 : (svS (6 + n + nodes n f c u + (2 * k + 1)) (rd (6 + i) b l w).1 a b d l w).1 = 0
            · rw [if_neg (fun hh => hh h5), if_neg (fun hh => hh h5), app]
              by_cases h6 : (svS (6 + n + nodes n f c u + 2 * k) (hdB e k i (crc (toInts (rd (6 + i) b l w).1))) (svS (6 + n + nodes n f c u + (2 * k + 1)) (rd (6 + i) b l w).1 a b d l w).2.1 (svS (6 + n + nodes n f c u + (2 * k + 1)) (rd (6 + i) b l w).1 a b d l w).2.2.1 (svS (6 + n + nodes n f c u + (2 * k + 1)) (rd (6 + i) b l w).1 a b d l w).2.2.2.1 (svS (6 + n + nodes n f c u + (2 * k + 1)) (rd (6 + i) b l w).1 a b d l w).2.2.2.2.1 (svS (6 + n + nodes n f c u + (2 * k + 1)) (rd (6 + i) b l w).1 a b d l w).2.2.2.2.2).1 = 0
              · rw [bnf h6, cond_false]
                show _ = app9 K (if _ then _ else _)
                rw [if_neg (fun hh => hh h6), app9]
                simp only
                rw [h6]
              · rw [bnt h6, cond_true]
                show _ = app9 K (if _ then _ else _)
                rw [if_pos h6]; rfl
            · rw [if_pos h5, if_pos h5, app, bnt h5, cond_true]; rfl
          · rw [bnt h4, cond_true, if_pos h4]; rfl
        · rw [if_pos h3]
          by_cases h4 : i < 0
          · rw [ct h4]; rfl
          · rw [cf h4, ct (by omega)]; rfl
  · rw [decide_eq_false hr, Bool.not_false, cond_true, if_pos hr]; rfl

end Go.Proofs.YtlgopekjjkdkiaaGreatDoor.X
end

section
/- Sectors that are kept: the document's scan; finding one; what stays so of a disk's sectors. -/
namespace Go.Proofs.YtlgopekjjkdkiaaGreatDoor.X
open Go Go.Proofs.YtlgopekjjkdkiaaGreatDoor.Ev
set_option linter.unusedSectionVars false
variable [FZ]
set_option linter.unusedVariables false
set_option linter.unusedSimpArgs false

theorem numR {β : Type} {w k : Nat} {l : List Int} {K : Int → Int → Int → Option β} (h1 : 1 ≤ w) (hw : w ≤ 8) (h : k + w ≤ l.length) (hl : l.length ≤ 100) (hb : byts l) :
    f184_1 20000 (w : Int) (k : Int) 0 l K = K (num 0 ((l.drop k).take w)) ((k + w : Nat) : Int) 0 := by
  rw [f184_1, show ((0 : Int) != 0) = false from rfl, cond_false]
  refine (getR h1 hw (by omega) (by omega) hb).trans ?_
  rw [gt, if_pos h]
  show cond ((0 : Int) == 0) _ _ = _
  rw [beq_self_eq_true, cond_true, w64 (by omega) (by omega)]
  rfl

theorem partR {β : Type} {s : ByteArray} {k : Int} (hk : U32 k) {K : ByteArray → Int → Int → Bool → Option β} :
    f139_1 20000 s 8 8 k K = if isH s ∧ g2 (toInts (opn 8 s).1) = k then K ((opn 8 s).1.extract 0 8) (g3 (toInts (opn 8 s).1)) (g4 (toInts (opn 8 s).1)) true else K ByteArray.empty 0 0 false := by
  have hos := opn_size 8 s
  have hb := toInts_r (opn 8 s).1
  have htl := toInts_size (opn 8 s).1
  rw [f139_1, openR]
  by_cases h1 : (opn 8 s).2 = 0
  · rw [bnf h1, cond_false, w64 (x := (8 : Int) + 12) (by omega) (by omega)]
    by_cases h2 : (opn 8 s).1.size = 20
    · have hH : isH s := ⟨h1, h2⟩
      have e4 : ((opn 8 s).1.extract 8 12).size = 4 := by rw [D_size, D_ext, List.length_take, List.length_drop, ← D_size]; omega
      have t4 : toInts ((opn 8 s).1.extract 8 12) = ((toInts (opn 8 s).1).drop 8).take 4 := toInts_ext _ 8 12
      rw [bnf (by omega), cond_false, w64 (x := (8 : Int) + 4) (by omega) (by omega), ct ⟨by omega, by omega, by omega⟩, wu64 (x := k) (by omega) (by omega), text4]
      show cond (!(((opn 8 s).1.extract 8 12).toList == (ofInts (b4 k)).toList)) _ _ = _
      rw [beqB]
      by_cases h3 : g2 (toInts (opn 8 s).1) = k
      · have h3' : (opn 8 s).1.extract 8 12 = ofInts (b4 k) := (is4 e4 hk).2 (by rw [t4]; exact h3)
        have tx : toInts ((opn 8 s).1.extract 12 20) = ((toInts (opn 8 s).1).drop 12).take 8 := toInts_ext _ 12 20
        have hl8 : (toInts ((opn 8 s).1.extract 12 20)).length = 8 := by rw [tx]; simp; omega
        have hb8 : byts (toInts ((opn 8 s).1.extract 12 20)) := toInts_r _
        obtain ⟨r1, r2, r3, r4⟩ := g_r hb (by omega)
        rw [if_pos ⟨hH, h3⟩, decide_eq_true h3', Bool.not_true, cond_false, ct ⟨by omega, by omega, by omega⟩]
        have es : ((opn 8 s).1.size : Int).toNat = 20 := by omega
        rw [es]
        show f184_1 20000 4 0 0 (toInts ((opn 8 s).1.extract 12 20)) _ = _
        refine (numR (w := 4) (k := 0) (by omega) (by omega) (by omega) (by omega) hb8).trans ?_
        rw [ct ⟨by omega, by omega, by omega⟩]
        refine (numR (w := 4) (k := 4) (by omega) (by omega) (by omega) (by omega) hb8).trans ?_
        have e3 : num 0 (((toInts ((opn 8 s).1.extract 12 20)).drop 0).take 4) = g3 (toInts (opn 8 s).1) := by
          rw [tx, List.drop_zero, List.take_take, g3, List.drop_drop]; rfl
        have e5 : num 0 (((toInts ((opn 8 s).1.extract 12 20)).drop 4).take 4) = g4 (toInts (opn 8 s).1) := by
          rw [tx, List.drop_take, List.take_take, List.drop_drop, g4, List.drop_drop, List.drop_drop]; rfl
        rw [e3, e5, w64 (x := g3 _) (by omega) (by omega), wu32 r4.1 r4.2]
        rfl
      · have h3' : ¬ (opn 8 s).1.extract 8 12 = ofInts (b4 k) := fun hh => h3 (by have := (is4 e4 hk).1 hh; rw [t4] at this; exact this)
        rw [if_neg (fun hh => h3 hh.2), decide_eq_false h3', Bool.not_false, cond_true]
    · rw [bnt (by omega), cond_true, if_neg (fun hh => h2 hh.1.2)]
  · rw [bnt h1, cond_true, if_neg (fun hh => h1 hh.1.1)]

theorem scnRL {β : Type} {q p : Nat} {n f c u e a d : Int} {b : Bool} {l : List ByteArray} {w : WL} (hr : rt n f c u) (he : U64 e) (h : DS q p a d l w) (hsz : ∀ x, (rd x b l w).1.size ≤ 100) {K : Int → EL → Option β} :
    ∀ (m k fuel : Nat) (out : EL), ((m + k : Nat) : Int) = c → m < fuel → out.length ≤ k →
    f71_1_l5 20000 e a b d l w n f c u (fun x26 x27 => K x26 []) (fun x28 => K 0 x28) (fun x29 x30 => K 0 x29) (fun x31 => K 0 x31) fuel (k : Int) out =
      K (scn n (6 + n + nodes n f c u) e b l w m k out).1 (scn n (6 + n + nodes n f c u) e b l w m k out).2
  | _, _, 0, _, _, h, _ => by omega
  | 0, k, fuel + 1, out, hm, _, _ => by
    rw [f71_1_l5, cf (by omega)]; rfl
  | m + 1, k, fuel + 1, out, hm, hf, ho => by
    have hn := hr.1
    have hc := hr.2.2.1
    have hno := nodes_ok n f c u
    rw [f71_1_l5, ct (by omega), w64 (x := 2 * (k : Int)) (by omega) (by omega), areaR (.inl rfl), if_pos rfl, are, if_pos (show rt n f c u ∧ 0 ≤ 2 * (k : Int) ∧ 2 * (k : Int) < 2 * c from ⟨hr, by omega, by omega⟩), readR (by omega) h, scn]
    generalize rd (6 + n + nodes n f c u + 2 * (k : Int)) b l w = s1
    by_cases h1 : s1.2 = 0
    · rw [bnf h1, cond_false, if_neg (fun hh => hh h1), partR (by omega)]
      by_cases h2 : isH s1.1 ∧ g2 (toInts (opn 8 s1.1).1) = (k : Int)
      · have hL : (toInts (opn 8 s1.1).1).length = 20 := by rw [toInts_size]; exact h2.1.2
        obtain ⟨r1, r2, r3, r4⟩ := g_r (toInts_r (opn 8 s1.1).1) hL
        have e8 : ((opn 8 s1.1).1.extract 0 8).size = 8 := by rw [D_size, D_ext, List.length_take, List.length_drop, ← D_size]; have := h2.1.2; omega
        have t8 : toInts ((opn 8 s1.1).1.extract 0 8) = (toInts (opn 8 s1.1).1).take 8 := by rw [toInts_ext, List.drop_zero]
        rw [if_pos h2, Bool.not_true, cond_false]
        by_cases h5 : g3 (toInts (opn 8 s1.1).1) ≥ n
        · rw [ct h5, if_pos (.inr (.inr (.inr h5)))]
        · rw [cf h5, text8, beqB]
          by_cases h3 : g1 (toInts (opn 8 s1.1).1) = e
          · have h3' : (opn 8 s1.1).1.extract 0 8 = ofInts (b8 e) := (is8 e8 he).2 (by rw [t8]; exact h3)
            rw [decide_eq_true h3', Bool.not_true, cond_false, if_neg (show ¬ (¬ isH s1.1 ∨ g1 (toInts (opn 8 s1.1).1) ≠ e ∨ g2 (toInts (opn 8 s1.1).1) ≠ (k : Int) ∨ g3 (toInts (opn 8 s1.1).1) ≥ n) from fun hh => by
                rcases hh with hh | hh | hh | hh
                · exact hh h2.1
                · exact hh h3
                · exact hh h2.2
                · exact h5 hh), w64 (x := 2 * (k : Int) + 1) (by omega) (by omega), areaR (.inl rfl), if_pos rfl, are, if_pos (show rt n f c u ∧ 0 ≤ 2 * (k : Int) + 1 ∧ 2 * (k : Int) + 1 < 2 * c from ⟨hr, by omega, by omega⟩), readR (by omega) h]
            have hsz2 := hsz (6 + n + nodes n f c u + (2 * (k : Int) + 1))
            generalize rd (6 + n + nodes n f c u + (2 * (k : Int) + 1)) b l w = s2 at hsz2
            by_cases h6 : s2.2 = 0
            · have htl := toInts_size s2.1
              rw [bnf h6, cond_false, if_neg (fun hh => hh h6), crcR (by omega)]
              by_cases h7 : crc (toInts s2.1) = g4 (toInts (opn 8 s1.1).1)
              · rw [bnf h7, cond_false, if_neg (fun hh => hh h7), ct (by omega), w64 (x := (k : Int) + 1) (by omega) (by omega)]
                have ih := scnRL hr he h hsz (K := K) m (k + 1) fuel (out ++ [(0, (e, (g3 (toInts (opn 8 s1.1).1), s2.1)))]) (by omega) (by omega) (by simp; omega)
                push_cast at ih
                exact ih
              · rw [bnt h7, cond_true, if_pos h7]
            · rw [bnt h6, cond_true, if_pos h6]
          · have h3' : ¬ (opn 8 s1.1).1.extract 0 8 = ofInts (b8 e) := fun hh => h3 (by have := (is8 e8 he).1 hh; rw [t8] at this; exact this)
            rw [decide_eq_false h3', Bool.not_false, cond_true, if_pos (.inr (.inl h3))]
      · rw [if_neg h2, Bool.not_false, cond_true, if_pos]
        by_cases q1 : isH s1.1
        · exact .inr (.inr (.inl fun hh => h2 ⟨q1, hh⟩))
        · exact .inl q1
    · rw [bnt h1, cond_true, if_pos h1]

/-- Scan: the entries, or why not. -/
def scG (n f c u e : Int) (b : Bool) (l : List ByteArray) (w : WL) : Int × EL := if rt n f c u then scn n (6 + n + nodes n f c u) e b l w c.toNat 0 [] else (12, [])

theorem scGP {β : Type} {q p : Nat} {n f c u e a d : Int} {b : Bool} {l : List ByteArray} {w : WL} (he : U64 e) (h : DS q p a d l w) (hsz : ∀ x, (rd x b l w).1.size ≤ 100) {K : Int → EL → Option β} :
    f66_1 20000 n f c u e a b d l w K = K (scG n f c u e b l w).1 (scG n f c u e b l w).2 := by
  by_cases hr : rt n f c u
  · rw [scanP hr he h hsz, scG, if_pos hr]
  · rw [f66_1, right46, decide_eq_false hr, Bool.not_false, cond_true, scG, if_neg hr]

theorem scGR {β : Type} {q p : Nat} {n f c u e a d : Int} {b : Bool} {l : List ByteArray} {w : WL} (he : U64 e) (h : DS q p a d l w) (hsz : ∀ x, (rd x b l w).1.size ≤ 100) {K : Int → EL → Option β} :
    f71_1 20000 n f c u e a b d l w K = K (scG n f c u e b l w).1 (scG n f c u e b l w).2 := by
  by_cases hr : rt n f c u
  · have hc := hr.2.2.1
    rw [f71_1, right47, decide_eq_true hr, Bool.not_true, cond_false, scG, if_pos hr]
    exact scnRL hr he h hsz c.toNat 0 20000 [] (by omega) (by omega) (by simp)
  · rw [f71_1, right47, decide_eq_false hr, Bool.not_false, cond_true, scG, if_neg hr]

theorem scn_len (n B e : Int) (b : Bool) (l : List ByteArray) (w : WL) : ∀ (m k : Nat) (out : EL), (scn n B e b l w m k out).2.length ≤ out.length + m
  | 0, k, out => by simp [scn]
  | m + 1, k, out => by
    rw [scn]
    split
    · simp
    · split
      · simp
      · split
        · simp
        · split
          · simp
          · have := scn_len n B e b l w m (k + 1) (out ++ [(0, (e, (g3 (toInts (opn 8 (rd (B + 2 * (k : Int)) b l w).1).1), (rd (B + (2 * (k : Int) + 1)) b l w).1)))])
            simp only [List.length_append, List.length_cons, List.length_nil] at this
            omega

theorem scG_len (n f c u e : Int) (b : Bool) (l : List ByteArray) (w : WL) : (scG n f c u e b l w).2.length ≤ 64 := by
  unfold scG
  split
  · rename_i hr
    have hc := hr.2.2.1
    have := scn_len n (6 + n + nodes n f c u) e b l w c.toNat 0 []
    simp only [List.length_nil] at this
    omega
  · simp

/-! ### One of a list -/

def fnd (i : Int) : EL → ByteArray × Bool
  | [] => (ByteArray.empty, false)
  | p :: r => if p.2.2.1 = i then (p.2.2.2, true) else fnd i r

theorem fndPL {β : Type} {i : Int} {E : EL} (hl : E.length ≤ 10000) {K : ByteArray → Bool → Option β} : ∀ (r : EL) (j k : Nat), E.drop j = r → j ≤ E.length → r.length < k → f67_1_l2 20000 i ((E.length : Nat) : Int) E (fun x5 x6 x7 x8 x9 => K x5 true) (K ByteArray.empty false) k (j : Int) = K (fnd i r).1 (fnd i r).2
  | [], j, 0, _, _, hk => by simp at hk
  | _ :: _, j, 0, _, _, hk => by simp at hk
  | [], j, k + 1, hd, hj, _ => by
    have := len_of_drop_nil hd hj
    rw [f67_1_l2, cf (by omega)]; rfl
  | p :: r, j, k + 1, hd, hj, hk => by
    obtain ⟨h1, h2, h3⟩ := getD_of_drop (d := ((0, (0, (0, ByteArray.empty))) : Int × (Int × (Int × ByteArray)))) hd
    rw [f67_1_l2, ct (by omega), ct (by omega), ct (by omega), h2, fnd, w64 (by omega) (by omega)]
    by_cases h : p.2.2.1 = i
    · rw [show (p.2.2.1 == i) = true by simp [h], cond_true, if_pos h]
    · rw [show (p.2.2.1 == i) = false by simp [h], cond_false, if_neg h]
      exact fndPL hl r (j + 1) k h3 (by omega) (by simp at hk; omega)

theorem fndRL {β : Type} {i : Int} {E : EL} (hl : E.length ≤ 10000) {K : ByteArray → Bool → Option β} : ∀ (r : EL) (j k : Nat), E.drop j = r → j ≤ E.length → r.length < k → f72_1_l2 20000 i E (fun x4 => K x4 true) (K ByteArray.empty false) k (j : Int) = K (fnd i r).1 (fnd i r).2
  | [], j, 0, _, _, hk => by simp at hk
  | _ :: _, j, 0, _, _, hk => by simp at hk
  | [], j, k + 1, hd, hj, _ => by
    have := len_of_drop_nil hd hj
    rw [f72_1_l2, cf (by omega)]; rfl
  | p :: r, j, k + 1, hd, hj, hk => by
    obtain ⟨h1, h2, h3⟩ := getD_of_drop (d := ((0, (0, (0, ByteArray.empty))) : Int × (Int × (Int × ByteArray)))) hd
    rw [f72_1_l2, ct (by omega), ct (by omega), ct (by omega), h2, fnd, w64 (by omega) (by omega)]
    by_cases h : p.2.2.1 = i
    · rw [show (p.2.2.1 == i) = true by simp [h], cond_true, ct (by omega), ct (by omega), if_pos h]
    · rw [show (p.2.2.1 == i) = false by simp [h], cond_false, if_neg h]
      exact fndRL hl r (j + 1) k h3 (by omega) (by simp at hk; omega)

theorem fndP {β : Type} {i : Int} {E : EL} (hl : E.length ≤ 10000) {K : ByteArray → Bool → Option β} : f67_1 20000 i E K = K (fnd i E).1 (fnd i E).2 := by
  rw [f67_1]
  exact fndPL hl E 0 20000 rfl (by omega) (by omega)
theorem fndR {β : Type} {i : Int} {E : EL} (hl : E.length ≤ 10000) {K : ByteArray → Bool → Option β} : f72_1 20000 i E K = K (fnd i E).1 (fnd i E).2 := by
  rw [f72_1]
  exact fndRL hl E 0 20000 rfl (by omega) (by omega)

/-! ### All sectors have 64 bytes -/

structure SZ (l : List ByteArray) (w : WL) : Prop where
  l64 : ∀ s ∈ l, s.size = 64
  w64 : ∀ p ∈ w, p.2.size = 64

theorem last_sz {x : Int} : ∀ (w : WL) (s : ByteArray), (∀ p ∈ w, p.2.size = 64) → s.size ≤ 100 → (last x s w).size ≤ 100
  | [], s, _, hs => hs
  | p :: r, s, h, hs => by
    rw [last, List.foldl_cons, ← last]
    refine last_sz r _ (fun q hq => h q (by simp [hq])) ?_
    split
    · have := h p (by simp); omega
    · exact hs

theorem SZ.rd {l : List ByteArray} {w : WL} (h : SZ l w) (b : Bool) (x : Int) : (X.rd x b l w).1.size ≤ 100 := by
  unfold X.rd
  split
  · show ByteArray.empty.size ≤ 100; decide
  · show (if 0 ≤ x ∧ x < (l.length : Int) then _ else ByteArray.empty).size ≤ 100
    split
    · rename_i hx
      refine last_sz w _ h.w64 ?_
      have : l.getD x.toNat ByteArray.empty ∈ l := by
        have hlt : x.toNat < l.length := by omega
        rw [List.getD_eq_getElem?_getD, List.getElem?_eq_getElem hlt]
        exact List.getElem_mem hlt
      have := h.l64 _ this
      omega
    · show ByteArray.empty.size ≤ 100; decide

theorem SZ.put {l : List ByteArray} {w : WL} (h : SZ l w) {p : Int × ByteArray} (hp : p.2.size = 64) : SZ (put1 l p) w :=
  ⟨fun s hs => by
    rcases List.mem_or_eq_of_mem_set hs with hs | hs
    · exact h.l64 s hs
    · rw [hs]; exact hp, h.w64⟩

theorem SZ.puts {w' : WL} : ∀ (w : WL) (l : List ByteArray), (∀ p ∈ w, p.2.size = 64) → SZ l w' → SZ (w.foldl put1 l) w'
  | [], l, _, h => h
  | p :: r, l, hw, h => SZ.puts r (put1 l p) (fun q hq => hw q (by simp [hq])) (h.put (hw p (by simp)))

theorem SZ.wS {x : Int} {t : ByteArray} {a d : Int} {b : Bool} {l : List ByteArray} {w : WL} (h : SZ l w) : SZ l (X.wS x t a b d l w).2.2.2.2 := by
  unfold X.wS
  split
  · exact h
  · split
    · exact h
    · split
      · exact h
      · rename_i h3
        split
        · exact h
        · refine ⟨h.l64, fun p hp => ?_⟩
          rcases List.mem_append.1 hp with hp | hp
          · exact h.w64 p hp
          · simp at hp; rw [hp]; exact Classical.not_not.1 h3

theorem SZ.fS {a d : Int} {b : Bool} {l : List ByteArray} {w : WL} (h : SZ l w) : SZ (X.fS a b d l w).2.2.2.2.1 (X.fS a b d l w).2.2.2.2.2 := by
  unfold X.fS
  split
  · exact h
  · split
    · exact h
    · exact ⟨(SZ.puts w l h.w64 h).l64, fun p hp => by cases hp⟩

theorem SZ.svS {x : Int} {t : ByteArray} {a d : Int} {b : Bool} {l : List ByteArray} {w : WL} (h : SZ l w) : SZ (X.svS x t a b d l w).2.2.2.2.1 (X.svS x t a b d l w).2.2.2.2.2 := by
  unfold X.svS
  split
  · exact h.wS
  · exact h.wS.fS

theorem SZ.crash {ks : List Bool} : ∀ (w : WL) (i : Nat) (l : List ByteArray), SZ l w → SZ (crB ks i w l) []
  | [], i, l, h => ⟨h.l64, fun p hp => by cases hp⟩
  | p :: r, i, l, h => by
    rw [crB]
    refine SZ.crash r (i + 1) _ ?_
    have h' : SZ l r := ⟨h.l64, fun q hq => h.w64 q (by simp [hq])⟩
    split
    · exact h'.put (h.w64 p (by simp))
    · exact h'

/-- What is so behind Append. -/
theorem cwS_ok {m q : Nat} {n f c u k e i a d : Int} {b : Bool} {l : List ByteArray} {w : WL} (h : DS m q a d l w) (hq : q < 290) (hz : SZ l w) :
    DS m (q + 4) (cwS n f c u k e i a b d l w).2.2.2.2.1 (cwS n f c u k e i a b d l w).2.2.2.2.2.2.1 (cwS n f c u k e i a b d l w).2.2.2.2.2.2.2.1 (cwS n f c u k e i a b d l w).2.2.2.2.2.2.2.2 ∧
    SZ (cwS n f c u k e i a b d l w).2.2.2.2.2.2.2.1 (cwS n f c u k e i a b d l w).2.2.2.2.2.2.2.2 := by
  have h4 : DS m (q + 4) a d l w := (((h.more (by omega)).more (by omega)).more (by omega)).more (by omega)
  unfold cwS
  split
  · exact ⟨h4, hz⟩
  · split
    · exact ⟨h4, hz⟩
    · split
      · exact ⟨h4, hz⟩
      · split
        · exact ⟨h4, hz⟩
        · have h1 := svS_ok (x := 6 + n + nodes n f c u + (2 * k + 1)) (t := (rd (6 + i) b l w).1) (b := b) h (by omega)
          have z1 := hz.svS (x := 6 + n + nodes n f c u + (2 * k + 1)) (t := (rd (6 + i) b l w).1) (a := a) (b := b) (d := d)
          split
          · exact ⟨(h1.more (by omega)).more (by omega), z1⟩
          · have h2 := svS_ok (x := 6 + n + nodes n f c u + 2 * k) (t := hdB e k i (crc (toInts (rd (6 + i) b l w).1))) (b := (svS (6 + n + nodes n f c u + (2 * k + 1)) (rd (6 + i) b l w).1 a b d l w).2.2.1) h1 (by omega)
            have z2 := z1.svS (x := 6 + n + nodes n f c u + 2 * k) (t := hdB e k i (crc (toInts (rd (6 + i) b l w).1))) (a := (svS (6 + n + nodes n f c u + (2 * k + 1)) (rd (6 + i) b l w).1 a b d l w).2.1) (b := (svS (6 + n + nodes n f c u + (2 * k + 1)) (rd (6 + i) b l w).1 a b d l w).2.2.1) (d := (svS (6 + n + nodes n f c u + (2 * k + 1)) (rd (6 + i) b l w).1 a b d l w).2.2.2.1)
            simp only
            split
            · exact ⟨h2, z2⟩
            · exact ⟨h2, z2⟩

end Go.Proofs.YtlgopekjjkdkiaaGreatDoor.X
end

section
/- A disk: lists of writes. -/
namespace Go.Proofs.YtlgopekjjkdkiaaGreatDoor.X
open Go Go.Proofs.YtlgopekjjkdkiaaGreatDoor.Ev
set_option linter.unusedSectionVars false
variable [FZ]
set_option linter.unusedVariables false
set_option linter.unusedSimpArgs false

/-! ### Lists of writes -/

theorem cloneW {β : Type} {F : Nat} {w : WL} (hw : w.length ≤ 300) {K : WL → Option β} : f78_1 F w K = K w := by
  rw [f78_1, ct (show (0 + w.length) * 24 ≤ 70368744177664 by omega), List.nil_append]
  by_cases h : 0 < w.length
  · rw [ct h]
  · have : w = [] := List.length_eq_zero_iff.1 (by omega)
    rw [cf h]; subst this; exact amb_self _

theorem putsl {β : Type} {F : Nat} {w : WL} (hw : w.length ≤ 300) {K0 K1 : Option β} : ∀ (r : WL) (i k : Nat), w.drop i = r → i ≤ w.length → r.length < k → f17_1_l4 F w w K0 K1 k (i : Int) = K1
  | [], i, 0, _, _, hk => by simp at hk
  | _ :: _, i, 0, _, _, hk => by simp at hk
  | [], i, k + 1, hd, hi, _ => by
    have := len_of_drop_nil hd hi
    rw [f17_1_l4, cf (by omega)]
  | p :: r, i, k + 1, hd, hi, hk => by
    obtain ⟨h1, h2, h3⟩ := getD_of_drop (d := ((0, ByteArray.empty) : Int × ByteArray)) hd
    rw [f17_1_l4, ct (by omega), ct (by omega), ct (by omega), ct (by omega), ct (by omega), show ∀ p : Int × ByteArray, (!(p.1 == p.1 && p.2.toList == p.2.toList)) = false from fun p => by simp, cond_false, w64 (by omega) (by omega)]
    exact putsl hw r (i + 1) k h3 (by omega) (by simp at hk; omega)

end Go.Proofs.YtlgopekjjkdkiaaGreatDoor.X
end

section
/- Disks that are played with: the document's new disk, what both hold at the end. -/
namespace Go.Proofs.YtlgopekjjkdkiaaGreatDoor.X
open Go Go.Proofs.YtlgopekjjkdkiaaGreatDoor.Ev
set_option linter.unusedSectionVars false
variable [FZ]
set_option linter.unusedVariables false
set_option linter.unusedSimpArgs false

theorem newRl {β : Type} {n : Nat} (hn : n ≤ 1200) {a c : Int} {b : Bool} {w : WL} {K : List ByteArray → Option β} : ∀ (j i f : Nat), j + i = n → j < f → f13_1_l5 20000 (n : Int) a b c w K f (i : Int) (List.replicate i Z64) = K (List.replicate n Z64)
  | _, _, 0, _, hf => by omega
  | 0, i, f + 1, hi, _ => by rw [f13_1_l5, cf (by omega), show i = n by omega]
  | j + 1, i, f + 1, hi, hf => by
    rw [f13_1_l5, ct (by omega), zero64, ct (by simp; omega), w64 (by omega) (by omega), show List.replicate i Z64 ++ [Z64] = List.replicate (i + 1) Z64 from List.replicate_succ'.symm]
    exact newRl hn j (i + 1) f (by omega) (by omega)

theorem newR {β : Type} {m : Nat} (h1 : 1 ≤ m) (h2 : m ≤ 1200) {K0 : Option β} {K1 : List ByteArray → WL → Option β} : f13_1 20000 (m : Int) K0 K1 = K1 (List.replicate m Z64) [] := by
  rw [f13_1, cf (by omega), cf (by omega)]
  exact newRl (by omega) m 0 20000 (by omega) (by omega)

theorem DS.new {m : Nat} (h2 : m ≤ 1200) : DS m 0 (-1) 0 (List.replicate m Z64) [] :=
  ⟨by omega, by omega, by simp, by simp, fun p hp => (by cases hp), by omega, by omega⟩

theorem waitsEq {β : Type} {w : WL} {a d : Int} {b : Bool} {l : List ByteArray} (hw : w.length ≤ 300) {K : Bool → Option β} : f18_1 20000 a b d l w (fun x => f17_1 20000 x w (fun y => K y)) = K true := by
  rw [f18_1, cloneW hw, f17_1, show ∀ z : Int, (z != z) = false from fun z => by simp, cond_false]
  exact putsl hw w 0 20000 rfl (by omega) (by omega)

theorem DS.more4 {m k : Nat} {a d : Int} {l : List ByteArray} {w : WL} (h : DS m k a d l w) (hk : k < 290) : DS m (k + 4) a d l w := (((h.more (by omega)).more (by omega)).more (by omega)).more (by omega)
theorem DS.more3 {m k : Nat} {a d : Int} {l : List ByteArray} {w : WL} (h : DS m (k + 1) a d l w) (hk : k < 290) : DS m (k + 4) a d l w := ((h.more (by omega)).more (by omega)).more (by omega)
theorem DS.more2 {m k : Nat} {a d : Int} {l : List ByteArray} {w : WL} (h : DS m (k + 2) a d l w) (hk : k < 290) : DS m (k + 4) a d l w := (h.more (by omega)).more (by omega)

end Go.Proofs.YtlgopekjjkdkiaaGreatDoor.X
end

section
/- The law: sectors that are kept, played. -/
namespace Go.Proofs.YtlgopekjjkdkiaaGreatDoor.X
open Go Go.Proofs.YtlgopekjjkdkiaaGreatDoor.Ev
set_option linter.unusedSectionVars false
variable [FZ]
set_option linter.unusedVariables false
set_option linter.unusedSimpArgs false

set_option maxRecDepth 100000 in
theorem known17 {β : Type} {K : Bool → Option β} : f11_1 20000 K = K true := by kernel_rfl

theorem amb3 {β : Type} {x : Option β} : (fun z1 : Option β => amb z1 (amb (amb z1 z1) (amb z1 z1))) x = x := by
  show amb x (amb (amb x x) (amb x x)) = x
  rw [amb_self, amb_self, amb_self]

abbrev ActC := Int × (Int × (Int × (Int × (ByteArray × (Sl .bool)))))

theorem doC {β : Type} {m q : Nat} {a d n f c u kd kk e i : Int} {b : Bool} {l : List ByteArray} {w : WL} {t : ByteArray} {ks : Sl .bool} (h : DS m q a d l w) (hq : q < 280) (hz : SZ l w) (he : U64 e) (hk : kk ≤ 9223372036854775807)
    {K : Bool → Int → Bool → Int → List ByteArray → Int → Bool → Int → List ByteArray → WL → WL → Option β} {r : Option β}
    (hK : ∀ a' b' d' l' w', DS m (q + 4) a' d' l' w' → SZ l' w' → K true a' b' d' l' a' b' d' l' w' w' = r) :
    f14_1 20000 n f c u kd kk e i t ks a b d l w a b d l w K = r := by
  have hself : ∀ z : Int, (z == z) = true := fun z => by simp
  have e2 : ∀ s : ByteArray, (s.toList == s.toList) = true := fun s => by simp
  have e3 : ∀ s : Bool, (s == s) = true := fun s => by simp
  rw [f14_1]
  cases (kd.tmod 5 == 0) with
  | true =>
    obtain ⟨o1, o2⟩ := cwS_ok (n := n) (f := f) (c := c) (u := u) (k := kk) (e := e) (i := i) (b := b) h (by omega) hz
    rw [cond_true, cwP h (by omega) (hz.rd _ _), app9, cwR h (by omega) (hz.rd _ _), app9, hself, hself, hself, e2]
    exact hK _ _ _ _ _ o1 o2
  | false =>
    rw [cond_false]
    cases (kd.tmod 5 == 1) with
    | true =>
      have hl := scG_len n f c u e b l w
      rw [cond_true, scGP he h (hz.rd _), scGR he h (hz.rd _), fndP (by omega), fndR (by omega), entP (by omega), cond_true, hself, cond_true, e2, cond_true, e3]
      exact hK _ _ _ _ _ (h.more4 (by omega)) hz
    | false =>
      rw [cond_false]
      cases (kd.tmod 5 == 2) with
      | true =>
        rw [cond_true, amb3, writeP h, writeR h, hself]
        exact hK _ _ _ _ _ ((wS_ok h (by omega)).more3 (by omega)) hz.wS
      | false =>
        rw [cond_false]
        cases (kd.tmod 5 == 3) with
        | true =>
          rw [cond_true, f29_1, f75_1]
          exact hK _ _ _ _ _ ((h.fuse (by omega) hk).more3 (by omega)) hz
        | false =>
          rw [cond_false, crashP (by omega) h, crashR (by omega) h, f33_1, Bool.not_true, cond_false, f76_1, Bool.not_true, cond_false]
          exact hK _ _ _ _ _ ((h.crashed (by omega) ks.dat).more3 (by omega)) (SZ.crash w 0 l hz)

def CWf (l : List ActC) : Prop := ∀ x ∈ l, x.2.1 ≤ 9223372036854775807 ∧ U64 x.2.2.1

theorem playl {β : Type} {m : Nat} {n f c u z : Int} {acts : List ActC} (ha : acts.length ≤ 40) (hw : CWf acts) {K0 K1 K2} {r0 : Option β} (h0 : ∀ a b d l w a' b' d' l' w', K0 true a b d l w a' b' d' l' w' = r0) (h2 : ∀ a b d l w, DS m 160 a d l w → K2 a b d l w a b d l w = r0) : ∀ (r : List ActC) (i k : Nat) {a d : Int} {b : Bool} {l : List ByteArray} {w : WL}, acts.drop i = r → i ≤ acts.length → r.length < k → DS m (4 * i) a d l w → SZ l w →
    f3_1_l6_4 20000 z acts n f c u K0 K1 K2 k (i : Int) a b d l w a b d l w = r0
  | [], i, 0, _, _, _, _, _, _, _, hk, _, _ => by simp at hk
  | _ :: _, i, 0, _, _, _, _, _, _, _, hk, _, _ => by simp at hk
  | [], i, k + 1, a, d, b, l, w, hd, hi, _, h, _ => by
    have := len_of_drop_nil hd hi
    rw [f3_1_l6_4, cf (by omega)]
    refine h2 _ _ _ _ _ ⟨h.n40, by omega, h.len, ?_, h.wb, h.ar, ?_⟩
    · have := h.wl; omega
    · have := h.cr; omega
  | p :: r, i, k + 1, a, d, b, l, w, hd, hi, hk, h, hz => by
    obtain ⟨h1, h2', h3⟩ := getD_of_drop (d := ((0, (0, (0, (0, (ByteArray.empty, (Sl.nil .bool)))))) : ActC)) hd
    have hp := hw p (List.mem_of_mem_drop (by rw [hd]; simp))
    rw [f3_1_l6_4, ct (by omega), ct (by omega), ct (by omega), h2']
    by_cases hs : (p.2.2.2.2.1.size : Int) > 200
    · rw [ct hs, known17]; exact h0 _ _ _ _ _ _ _ _ _ _
    · rw [cf hs, ct (by omega), ct (by omega)]
      refine doC h (by omega) hz hp.2 hp.1 ?_
      intro a' b' d' l' w' hd' hz'
      rw [Bool.not_true, cond_false, w64 (by omega) (by omega)]
      exact playl ha hw h0 h2 r (i + 1) k h3 (by omega) (by simp at hk; omega) hd' hz'

theorem keptl {β : Type} {m : Nat} {acts : List ActC} {a d : Int} {b : Bool} {l : List ByteArray} {w : WL} (h : DS m 160 a d l w) {K0 K1 : Option β} : ∀ (j i f : Nat), j + i = m → j < f → f3_1_l13_4 20000 (m : Int) acts a b d l w a b d l w K0 K1 f (i : Int) = K1
  | _, _, 0, _, hf => by omega
  | 0, i, f + 1, hi, _ => by rw [f3_1_l13_4, cf (by omega)]
  | j + 1, i, f + 1, hi, hf => by
    have hl := h.len; have hn := h.n40
    rw [f3_1_l13_4, ct (by omega), keptP, ct (by omega), ct (by omega), kp, if_pos (by omega), Nat.zero_add]
    rw [show ∀ s : ByteArray, (!(s.toList == s.toList)) = false from fun s => by simp, cond_false, w64 (by omega) (by omega)]
    exact keptl h j (i + 1) f (by omega) (by omega)

theorem law_true {β : Type} (n f c u z : Int) (acts : List ActC) {q1 q2 q3 q4 q6 : Prop} (_ : q1) (_ : q2) (_ : q3) (_ : q4) (_ : (Lit.int .i64 z).wf = true) (_ : q6) (hw0 : ∀ x ∈ acts, (Lit.int .i64 x.1).wf = true ∧ (Lit.int .i64 x.2.1).wf = true ∧ (Lit.int .u64 x.2.2.1).wf = true ∧ (Lit.int .i64 x.2.2.2.1).wf = true ∧ x.2.2.2.2.1.size ≤ maxLen ∧ (x.2.2.2.2.2.dat.length ≤ maxLen ∧ ∀ y ∈ x.2.2.2.2.2.dat, wfS .bool y)) (r0 : β) :
    ∃ F, f3_1 F n f c u z acts (fun b => cond b (some r0) none) = some r0 := by
  refine ⟨20000, ?_⟩
  have hw : CWf acts := fun x hx => ⟨(i64_of_wf (hw0 x hx).2.1).2, u64_of_wf (hw0 x hx).2.2.1⟩
  rw [f3_1]
  by_cases h1 : z < 1
  · rw [ct h1, known17]; rfl
  by_cases h2 : z > 120
  · rw [cf h1, ct h2, known17]; rfl
  by_cases h3 : ((acts.length : Nat) : Int) > 40
  · rw [cf h1, cf h2, ct h3, known17]; rfl
  obtain ⟨m, rfl⟩ : ∃ m : Nat, z = (m : Int) := ⟨z.toNat, by omega⟩
  rw [cf h1, cf h2, cf h3, newP (by omega) (by omega), newR (by omega) (by omega)]
  refine playl (m := m) (by omega) hw (fun _ _ _ _ _ _ _ _ _ _ => rfl) ?_ acts 0 20000 rfl (by omega) (by omega) (DS.new (by omega)) ⟨fun s hs => ?_, fun p hp => (by cases hp)⟩
  · intro a b d l w h
    have hwl := h.wl
    refine (keptl h m 0 20000 (by omega) (by omega)).trans ?_
    rw [f16_1, show (d == d) = true by simp, cond_true, waitsEq (by omega), cond_true, known17]; rfl
  · rw [List.eq_of_mem_replicate hs]; exact Z64_size

end Go.Proofs.YtlgopekjjkdkiaaGreatDoor.X
end
