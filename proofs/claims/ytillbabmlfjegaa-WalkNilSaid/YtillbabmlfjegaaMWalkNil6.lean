/- Merged: GeoB, EvF71, GeoC, GeoD, TreeA, EvF25, EvF75, EvF26, TreeB, TreeK, PureWalkNil. -/
import Derived.Test.YtillbabmlfjegaaMWalkNil5
import Derived.Test.YtillbabmlfjegaaMWalkNil4
import Derived.Test.YtillbabmlfjegaaMWalkNil2
import Derived.Test.YtillbabmlfjegaaProg
import Derived.KernelRfl
import Derived.Test.YtillbabmlfjegaaMWalkNil3
section
/- Trees' shapes: parents and children over the list of the levels; any seat. -/
namespace Go.Proofs.Ytillbabmlfjegaa.X
open Go Go.Proofs.Ytillbabmlfjegaa.Ev
set_option linter.unusedVariables false

/-- Children of a node, by the levels from a number on. -/
def kids (f : Int) (from_ a q : Int) : Nat → List Int
  | 0 => []
  | k + 1 => kids f from_ a q k ++ (if q * f + k < a then [from_ + (q * f + k)] else [])

def chl (f : Int) (node : Int) : Int → List Int → List Int
  | s, a :: b :: r => if s + a ≤ node ∧ node < s + a + b then kids f s a (node - (s + a)) f.toNat else chl f node (s + a) (b :: r)
  | _, _ => []

def par (f : Int) (node : Int) : Int → List Int → Int
  | s, a :: b :: r => if s ≤ node ∧ node < s + a then s + a + (node - s) / f else par f node (s + a) (b :: r)
  | _, _ => -1

/-- Each level is the one below it, over f, rounded up; the last one is 1. -/
def chain (f : Int) : List Int → Prop
  | a :: b :: r => 1 < a ∧ b = (a + f - 1) / f ∧ chain f (b :: r)
  | [a] => a = 1
  | [] => True

theorem chain_lv {f : Int} (hf : 2 ≤ f ∧ f ≤ 4) : ∀ (k : Nat) (n : Int), 1 ≤ n → n ≤ 128 → n < k → chain f (n :: lv k n f)
  | 0, n, h1, h2, h3 => by omega
  | k + 1, n, h1, h2, h3 => by
    simp only [lv]
    by_cases hn : n > 1
    · obtain ⟨e, g1, g2⟩ := step_eq hf hn h2
      rw [if_pos hn]
      exact ⟨hn, rfl, chain_lv hf k _ g1 (by omega) (by omega)⟩
    · rw [if_neg hn]
      show n = 1
      omega

/-- The level of a node: its number in the list and the number of the first node there. -/
def lvl (node : Int) : Int → Nat → List Int → Option (Nat × Int)
  | s, i, a :: r => if s ≤ node ∧ node < s + a then some (i, s) else lvl node (s + a) (i + 1) r
  | _, _, [] => none

/-- What is at hand in the middle of a list. -/
theorem at_drop {l r : List Int} {x : Int} {i : Nat} (hd : l.drop i = x :: r) : i < l.length ∧ l.getD (0 + (i : Int).toNat) 0 = x ∧ l.drop (i + 1) = r := by
  have hlen : l.length - i = r.length + 1 := by
    have := congrArg List.length hd
    simpa using this
  have hx : l[i]? = some x := by
    have := congrArg (·[0]?) hd
    simpa using this
  refine ⟨by omega, ?_, ?_⟩
  · rw [List.getD_eq_getElem?_getD]; simp [hx]
  · rw [← List.drop_drop, hd]; rfl

theorem level88 {β : Type} {F : Nat} {node : Int} {K0 : Int → Int → Option β} {K1 : Option β} (l : List Int) (hl : l.length ≤ 128) (hy : ∀ y ∈ l, 1 ≤ y ∧ y ≤ 128) :
    ∀ (r : List Int) (i k : Nat) (s : Int), l.drop i = r → i ≤ l.length → r.length < k → 0 ≤ s → s ≤ 128 * i →
      f101_1_l3 F node ((l.length : Nat) : Int) l K0 K1 k s (i : Int) = match lvl node s i r with | some (j, t) => K0 (j : Int) t | none => K1
  | [], i, k, s, hd, hi, hk, h0, h1 => by
    cases k with
    | zero => omega
    | succ k =>
      have : i = l.length := by
        have := congrArg List.length hd
        simp at this; omega
      subst this
      simp [f101_1_l3, lvl]
  | x :: r, i, k, s, hd, hi, hk, h0, h1 => by
    cases k with
    | zero => omega
    | succ k =>
      obtain ⟨hlt, hx, hdr⟩ := at_drop hd
      have hm := hy x (by
        have : x ∈ l.drop i := by rw [hd]; simp
        exact List.mem_of_mem_drop this)
      simp only [f101_1_l3, within87]
      have e1 : decide ((i : Int) < ((l.length : Nat) : Int)) = true := by simp; omega
      have e2 : decide ((0 : Int) ≤ (i : Int) ∧ (i : Int) < ((l.length : Nat) : Int)) = true := by simp; omega
      have e3 : decide (0 + (i : Int).toNat < l.length) = true := by simp; omega
      rw [e1, e2, e3, hx, cond_true, cond_true, cond_true, w64 (x := s + x) (by omega) (by omega), w64 (x := s + x - 1) (by omega) (by omega), w64 (x := (i : Int) + 1) (by omega) (by omega)]
      simp only [lvl]
      by_cases hn : s ≤ node ∧ node < s + x
      · have e : decide (node ≥ s ∧ node ≤ s + x - 1) = true := by simp; omega
        rw [e, cond_true, if_pos hn]
      · have e : decide (node ≥ s ∧ node ≤ s + x - 1) = false := by simp; omega
        rw [e, cond_false, if_neg hn, show ((i : Int) + 1) = ((i + 1 : Nat) : Int) by omega]
        exact level88 l hl hy r (i + 1) k (s + x) hdr (by omega) (by simpa using hk) (by omega) (by omega)

/-- What is known of a level that was found. -/
theorem lvl_spec {node : Int} : ∀ (r : List Int) (s : Int) (i j : Nat) (t : Int), lvl node s i r = some (j, t) → ∃ p a q, r = p ++ a :: q ∧ j = i + p.length ∧ t = s + sumI p ∧ t ≤ node ∧ node < t + a
  | [], s, i, j, t, h => by simp [lvl] at h
  | x :: r, s, i, j, t, h => by
    simp only [lvl] at h
    split at h
    · rename_i hn
      simp only [Option.some.injEq, Prod.mk.injEq] at h
      obtain ⟨rfl, rfl⟩ := h
      exact ⟨[], x, r, rfl, by simp, by simp [sumI], hn.1, hn.2⟩
    · obtain ⟨p, a, q, h1, h2, h3, h4, h5⟩ := lvl_spec r _ _ _ _ h
      refine ⟨x :: p, a, q, by rw [h1]; rfl, by simp; omega, by simp only [sumI]; omega, h4, h5⟩

theorem lvl_none {node : Int} : ∀ (r : List Int) (s : Int) (i : Nat), (∀ y ∈ r, 1 ≤ y) → (lvl node s i r = none ↔ ¬ (s ≤ node ∧ node < s + sumI r))
  | [], s, i, h => by
    simp only [lvl, sumI, true_iff]
    omega
  | x :: r, s, i, h => by
    have h0 := h x (by simp)
    have h1 : 0 ≤ sumI r := by
      have : ∀ (l : List Int), (∀ y ∈ l, 1 ≤ y) → 0 ≤ sumI l := by
        intro l
        induction l with
        | nil => intro _; simp [sumI]
        | cons a l ih => intro hl; have := hl a (by simp); have := ih fun y hy => hl y (by simp [hy]); simp only [sumI]; omega
      exact this r fun y hy => h y (by simp [hy])
    simp only [lvl, sumI]
    split
    · simp; omega
    · rw [lvl_none r _ _ fun y hy => h y (by simp [hy])]
      omega

theorem kids_len (f from_ a q : Int) : ∀ k, (kids f from_ a q k).length ≤ k
  | 0 => by simp [kids]
  | k + 1 => by
    have := kids_len f from_ a q k
    simp only [kids, List.length_append]
    split <;> simp <;> omega

theorem mul_small {f q : Int} (hf : 2 ≤ f ∧ f ≤ 4) (hq : 0 ≤ q ∧ q < 128) : 0 ≤ q * f ∧ q * f < 512 := by
  have : f = 2 ∨ f = 3 ∨ f = 4 := by omega
  rcases this with rfl | rfl | rfl <;> omega

/-- The inner loop of the code's Children. -/
theorem kids58 {β : Type} {F : Nat} {node t below f n c u : Int} {K : List Int → Option β} (hf : 2 ≤ f ∧ f ≤ 4) (ht : 0 ≤ t ∧ t ≤ 16384) (hb : 1 ≤ below ∧ below ≤ 128) (hn : t ≤ node ∧ node < t + 128) :
    ∀ (m i k : Nat), (i : Int) + m = f → m < k → f68_1_l7 F node t below f n f c u K k (i : Int) (kids f (t - below) below (node - t) i) = K (kids f (t - below) below (node - t) f.toNat)
  | 0, i, k, hi, hk => by
    cases k with
    | zero => omega
    | succ k =>
      have e : decide ((i : Int) < f) = false := by simp; omega
      simp only [f68_1_l7, e, cond_false]
      rw [show f.toNat = i by omega]
  | m + 1, i, k, hi, hk => by
    cases k with
    | zero => omega
    | succ k =>
      have e : decide ((i : Int) < f) = true := by simp; omega
      obtain ⟨q1, q2⟩ := mul_small hf (q := node - t) (by omega)
      have hl := kids_len f (t - below) below (node - t) i
      have e8 : decide (((kids f (t - below) below (node - t) i).length + 1) * 8 ≤ 70368744177664) = true := by simp; omega
      simp only [f68_1_l7]
      rw [e, cond_true, w64 (x := node - t) (by omega) (by omega), w64 (x := (node - t) * f) (by omega) (by omega), w64 (x := (node - t) * f + i) (by omega) (by omega), w64 (x := (i : Int) + 1) (by omega) (by omega), w64 (x := t - below) (by omega) (by omega),
        w64 (x := t - below + ((node - t) * f + i)) (by omega) (by omega), e8, cond_true]
      have hk' : kids f (t - below) below (node - t) (i + 1) = kids f (t - below) below (node - t) i ++ (if (node - t) * f + (i : Int) < below then [t - below + ((node - t) * f + (i : Int))] else []) := rfl
      have := kids58 (F := F) (n := n) (c := c) (u := u) (K := K) hf ht hb hn m (i + 1) k (by omega) (by omega)
      rw [hk'] at this
      rw [show ((i : Int) + 1) = ((i + 1 : Nat) : Int) by omega]
      by_cases h : (node - t) * f + (i : Int) < below
      · simp only [h, decide_true, cond_true]
        rw [if_pos h] at this
        exact this
      · simp only [h, decide_false, cond_false]
        rw [if_neg h, List.append_nil] at this
        exact this

/-- The inner loop of the document's Children. -/
theorem kids59 {β : Type} {F : Nat} {node s above a f n c u : Int} {l : List Int} {j : Nat} {K : List Int → Option β} (hf : 2 ≤ f ∧ f ≤ 4) (ht : 0 ≤ s ∧ s ≤ 16384) (hj : j < l.length) (hlj : l.getD (0 + (j : Int).toNat) 0 = a)
    (hb : 1 ≤ a ∧ a ≤ 128) (hab : above = s + a) (hn : above ≤ node ∧ node < above + 128) :
    ∀ (m i k : Nat), (i : Int) + m = f → m < k → f17_1_l10 F node s (j : Int) above n f c u l K k (i : Int) (kids f s a (node - above) i) = K (kids f s a (node - above) f.toNat)
  | 0, i, k, hi, hk => by
    cases k with
    | zero => omega
    | succ k =>
      have e : decide ((i : Int) < f) = false := by simp; omega
      simp only [f17_1_l10, e, cond_false]
      rw [show f.toNat = i by omega]
  | m + 1, i, k, hi, hk => by
    cases k with
    | zero => omega
    | succ k =>
      have e : decide ((i : Int) < f) = true := by simp; omega
      obtain ⟨q1, q2⟩ := mul_small hf (q := node - above) (by omega)
      have hl := kids_len f s a (node - above) i
      have e8 : decide (((kids f s a (node - above) i).length + 1) * 8 ≤ 70368744177664) = true := by simp; omega
      have e2 : decide ((0 : Int) ≤ (j : Int) ∧ (j : Int) < ((l.length : Nat) : Int)) = true := by simp; omega
      have e3 : decide (0 + (j : Int).toNat < l.length) = true := by simp; omega
      simp only [f17_1_l10]
      rw [e, cond_true, e2, cond_true, e3, cond_true, hlj, w64 (x := node - above) (by omega) (by omega), w64 (x := (node - above) * f) (by omega) (by omega), w64 (x := (node - above) * f + i) (by omega) (by omega), w64 (x := (i : Int) + 1) (by omega) (by omega),
        w64 (x := s + ((node - above) * f + i)) (by omega) (by omega), e8, cond_true]
      have hk' : kids f s a (node - above) (i + 1) = kids f s a (node - above) i ++ (if (node - above) * f + (i : Int) < a then [s + ((node - above) * f + (i : Int))] else []) := rfl
      have := kids59 (F := F) (n := n) (c := c) (u := u) (K := K) hf ht hj hlj hb hab hn m (i + 1) k (by omega) (by omega)
      rw [hk'] at this
      rw [show ((i : Int) + 1) = ((i + 1 : Nat) : Int) by omega]
      by_cases h : (node - above) * f + (i : Int) < a
      · simp only [h, decide_true, cond_true]
        rw [if_pos h] at this
        exact this
      · simp only [h, decide_false, cond_false]
        rw [if_neg h, List.append_nil] at this
        exact this

/-- A node's children, by the list of the levels. -/
def chs (f node : Int) (L : List Int) : List Int := match lvl node 0 0 L with
  | some (j + 1, t) => kids f (t - L.getD j 0) (L.getD j 0) (node - t) f.toNat
  | _ => []

theorem level88' {β : Type} {n f c u node : Int} {K0 : Int → Int → Bool → Option β} : f101_1 20000 n f c u node K0 = match lvl node 0 0 (levels n f c u) with | some (j, t) => K0 (j : Int) t true | none => K0 0 0 false := by
  obtain ⟨h1, h2⟩ := levels_ok n f c u
  simp only [f101_1, levels48]
  have := level88 (F := 20000) (node := node) (K0 := fun x8 x9 => K0 x8 x9 true) (K1 := K0 0 0 false) (levels n f c u) h1 h2 _ 0 20000 0 rfl (by omega) (by simp; omega) (by omega) (by omega)
  simp only [List.drop_zero] at this
  exact this

theorem mem_getD {l : List Int} {j : Nat} (h : j < l.length) : l.getD j 0 ∈ l := by
  rw [List.getD_eq_getElem?_getD, List.getElem?_eq_getElem h]; simp

theorem chs58 {β : Type} {n f c u node : Int} {K : List Int → Option β} : f68_1 20000 n f c u node K = K (chs f node (levels n f c u)) := by
  obtain ⟨h1, h2⟩ := levels_ok n f c u
  simp only [f68_1, level88', levels48, chs]
  cases hl : lvl node 0 0 (levels n f c u) with
  | none => rfl
  | some q =>
    obtain ⟨j, t⟩ := q
    obtain ⟨p, a, r, e1, e2, e3, e4, e5⟩ := lvl_spec _ _ _ _ _ hl
    have hrt : rt n f c u := by
      by_cases h : rt n f c u
      · exact h
      · simp [levels, h] at e1
    cases j with
    | zero => simp
    | succ j =>
      have hlen : (levels n f c u).length = p.length + 1 + r.length := by rw [e1]; simp; omega
      have ha := h2 a (by rw [e1]; simp)
      have hp := sumI_ok p fun y hy => h2 y (by rw [e1]; simp [hy])
      have hj : j < (levels n f c u).length := by omega
      have hm := h2 _ (mem_getD hj)
      have x0 : (((j + 1 : Nat) : Int) == 0) = false := by simp; omega
      have x1 : IntKind.i64.wrap (((j + 1 : Nat) : Int) - 1) = (j : Int) := by rw [w64 (by omega) (by omega)]; omega
      have x2 : decide ((0 : Int) ≤ (j : Int) ∧ (j : Int) < (((levels n f c u).length : Nat) : Int)) = true := by simp; omega
      have x3 : decide (0 + (j : Int).toNat < (levels n f c u).length) = true := by simp; omega
      have x4 : (levels n f c u).getD (0 + (j : Int).toNat) 0 = (levels n f c u).getD j 0 := by simp
      simp only [Bool.not_true, cond_false, x0, x1, x2, x3, x4, cond_true]
      have := kids58 (F := 20000) (n := n) (c := c) (u := u) (K := K) (node := node) (t := t) (below := (levels n f c u).getD j 0) hrt.2.1 (by omega) hm (by omega) f.toNat 0 20000 (by have := hrt.2.1; omega) (by have := hrt.2.1; omega)
      simpa [kids] using this

end Go.Proofs.Ytillbabmlfjegaa.X
end

section
namespace Go.Proofs.Ytillbabmlfjegaa.X
open Go Go.Proofs.Ytillbabmlfjegaa.Ev Go.Proofs
set_option linter.unusedVariables false
/-! pentimentoref07.Root -/
noncomputable def f71_1 {β : Type} (F : Nat) (a1 : Int) (a2 : Int) (a3 : Int) (a4 : Int) (K0 : Int → Option β) : Option β := f14_1 F a1 a2 a3 a4 (fun x1 => K0 (if 0 > IntKind.i64.wrap (x1 - 1) then 0 else IntKind.i64.wrap (x1 - 1))) 
def sh71_1 : Sh := ⟨[.agg [.int .i64, .int .i64, .int .i64, .int .i64]], []⟩
noncomputable def S71_1 (F : Nat) (o : Summ) : Summ := mkS sh71_1 (fun d K => f71_1 F d.1.1.1 d.1.1.2.1 d.1.1.2.2.1 d.1.1.2.2.2.1 (fun (y0 : Int) => K [.lf (.int .i64 y0)] [])) o
noncomputable def code71 : Code := bodyOf Try.f71
theorem scopes71 : scopesOf code71 = [] := by kernel_rfl
theorem loops71 : loopsOf code71 = [] := by kernel_rfl
theorem enter71 : ∀ args w, (callFunc 71 args).run Try.prog w = .ok (.enter 71 args) w := enter_of (fn := Try.f71) (by kernel_rfl) (by kernel_rfl) (by kernel_rfl)
noncomputable def T71_1 (F : Nat) : FuncId → Option Summ := tab [(14, (S14_1 F noS))]
noncomputable def LT71_1 (F : Nat) : Nat → Option LoopS := ltab []
theorem E71_1g (F : Nat) (c14_1 : Int → Int → Int → Int → (Int → Option Res) → Option Res)   (d : sh71_1.den) (K : KF) : evBody Try.prog (tab [(14, (mkS sh14_1 (fun d K => c14_1 d.1.1.1 d.1.1.2.1 d.1.1.2.2.1 d.1.1.2.2.2.1 (fun (y0 : Int) => K [.lf (.int .i64 y0)] [])) noS))]) 7 0 (ltab []) code71 Try.f71.results.toList (encT sh71_1.vs d.1) (encH sh71_1.h d.2) K = (fun (a1 : Int) (a2 : Int) (a3 : Int) (a4 : Int) (K0 : (Int → Option Res)) => c14_1 a1 a2 a3 a4 (fun x1 => K0 (if 0 > IntKind.i64.wrap (x1 - 1) then 0 else IntKind.i64.wrap (x1 - 1))) ) d.1.1.1 d.1.1.2.1 d.1.1.2.2.1 d.1.1.2.2.2.1 (fun (y0 : Int) => K [.lf (.int .i64 y0)] []) := by kernel_rfl
theorem E71_1 (F : Nat) (d : sh71_1.den) (K : KF) : evBody Try.prog (T71_1 F) 7 0 (LT71_1 F) code71 Try.f71.results.toList (encT sh71_1.vs d.1) (encH sh71_1.h d.2) K = f71_1 F d.1.1.1 d.1.1.2.1 d.1.1.2.2.1 d.1.1.2.2.2.1 (fun (y0 : Int) => K [.lf (.int .i64 y0)] []) := Eq.mp (by kernel_rfl) (E71_1g F (f14_1 F)   d K)
theorem S71_1_ok (F : Nat) (o : Summ) (ho : SoundFn Try.prog 71 o) : SoundFn Try.prog 71 (S71_1 F o) :=
  soundFn_of (fn := Try.f71) (c := code71) (by kernel_rfl) (tab_cons (S14_1_ok F _ (noS_sound enter14)) tab_nil) (by kernel_rfl) (by kernel_rfl) ho (by rw [loops71]; exact loopsOK_nil) (by rw [scopes71]; exact scopesOK_nil) (E71_1 F)
end Go.Proofs.Ytillbabmlfjegaa.X
end

section
/- Trees' shapes: document and code reckon the same children; any seat. -/
namespace Go.Proofs.Ytillbabmlfjegaa.X
open Go Go.Proofs.Ytillbabmlfjegaa.Ev
set_option linter.unusedVariables false

theorem kids_mem0 {f s a q x : Int} : ∀ k : Nat, x ∈ kids f s a q k ↔ ∃ i : Nat, i < k ∧ q * f + i < a ∧ x = s + (q * f + i)
  | 0 => by simp [kids]
  | k + 1 => by
    simp only [kids, List.mem_append, kids_mem0 k]
    constructor
    · rintro (⟨i, h1, h2, h3⟩ | h)
      · exact ⟨i, by omega, h2, h3⟩
      · split at h
        · simp at h
          exact ⟨k, by omega, by assumption, h⟩
        · simp at h
    · rintro ⟨i, h1, h2, h3⟩
      by_cases hi : i = k
      · subst hi
        exact Or.inr (by rw [if_pos h2]; simp [h3])
      · exact Or.inl ⟨i, by omega, h2, h3⟩

theorem kids_mem {f s a q x : Int} (hf : 2 ≤ f ∧ f ≤ 4) (hq : 0 ≤ q) : x ∈ kids f s a q f.toNat ↔ s ≤ x ∧ x < s + a ∧ (x - s) / f = q := by
  rw [kids_mem0]
  have : f = 2 ∨ f = 3 ∨ f = 4 := by omega
  constructor
  · rintro ⟨i, h1, h2, h3⟩
    rcases this with rfl | rfl | rfl <;> simp at h1 <;> omega
  · rintro ⟨h1, h2, h3⟩
    refine ⟨((x - s) - q * f).toNat, ?_⟩
    rcases this with rfl | rfl | rfl <;> (simp only [Int.reduceToNat]; omega)

theorem kids_nodup {f s a q : Int} : ∀ k : Nat, (kids f s a q k).Pairwise (· < ·)
  | 0 => by simp [kids]
  | k + 1 => by
    simp only [kids]
    rw [List.pairwise_append]
    refine ⟨kids_nodup k, by split <;> simp, fun x hx y hy => ?_⟩
    obtain ⟨i, h1, h2, h3⟩ := (kids_mem0 k).1 hx
    split at hy
    · simp at hy; omega
    · simp at hy

def pos (L : List Int) : Prop := ∀ y ∈ L, 1 ≤ y ∧ y ≤ 128

theorem pos_tl {a : Int} {r : List Int} (h : pos (a :: r)) : (1 ≤ a ∧ a ≤ 128) ∧ pos r := ⟨h a (by simp), fun y hy => h y (by simp [hy])⟩

theorem sum_nn {L : List Int} (h : pos L) : 0 ≤ sumI L := by have := (sumI_ok L h).1; omega

theorem par_lt {f x : Int} : ∀ (L : List Int) (s : Int), pos L → x < s → par f x s L = -1
  | [], s, h, hx => rfl
  | [a], s, h, hx => rfl
  | a :: b :: r, s, h, hx => by
    have ha := (pos_tl h).1
    simp only [par]
    rw [if_neg (by omega)]
    exact par_lt (b :: r) _ (pos_tl h).2 (by omega)

theorem div_up {f a b y : Int} (hf : 2 ≤ f ∧ f ≤ 4) (hb : b = (a + f - 1) / f) (hy : 0 ≤ y ∧ y < a) : 0 ≤ y / f ∧ y / f < b := by
  have : f = 2 ∨ f = 3 ∨ f = 4 := by omega
  rcases this with rfl | rfl | rfl <;> omega

theorem par_bd {f x : Int} (hf : 2 ≤ f ∧ f ≤ 4) : ∀ (r : List Int) (a s : Int), pos (a :: r) → chain f (a :: r) → par f x s (a :: r) = -1 ∨ (s ≤ x ∧ x < par f x s (a :: r) ∧ s + a ≤ par f x s (a :: r) ∧ par f x s (a :: r) < s + sumI (a :: r))
  | [], a, s, h, hc => Or.inl rfl
  | b :: r, a, s, h, hc => by
    have ha := (pos_tl h).1
    have hb := (pos_tl (pos_tl h).2).1
    have hs := sum_nn (pos_tl (pos_tl h).2).2
    obtain ⟨h1, h2, h3⟩ := hc
    simp only [par]
    split
    · rename_i hx
      have := div_up (y := x - s) hf h2 (by omega)
      simp only [sumI]
      exact Or.inr (by omega)
    · rcases par_bd (x := x) hf r b (s + a) (pos_tl h).2 h3 with h4 | h4
      · exact Or.inl h4
      · refine Or.inr ?_
        simp only [sumI] at h4 ⊢
        omega

theorem mem_chl {f x k : Int} (hf : 2 ≤ f ∧ f ≤ 4) : ∀ (r : List Int) (a s : Int), pos (a :: r) → chain f (a :: r) → 0 ≤ s → 0 ≤ k → (x ∈ chl f k s (a :: r) ↔ par f x s (a :: r) = k)
  | [], a, s, h, hc, hs, hk => by simp [chl, par]; omega
  | b :: r, a, s, h, hc, hs, hk => by
    have ha := (pos_tl h).1
    have hb := (pos_tl (pos_tl h).2).1
    obtain ⟨h1, h2, h3⟩ := hc
    have hbd := par_bd (x := x) hf r b (s + a) (pos_tl h).2 h3
    have ih := mem_chl (x := x) (k := k) hf r b (s + a) (pos_tl h).2 h3 (by omega) hk
    simp only [par, chl]
    by_cases hq : s + a ≤ k ∧ k < s + a + b
    · rw [if_pos hq, kids_mem hf (by omega)]
      by_cases hx : s ≤ x ∧ x < s + a
      · rw [if_pos hx]; omega
      · rw [if_neg hx]; omega
    · rw [if_neg hq, ih]
      by_cases hx : s ≤ x ∧ x < s + a
      · rw [if_pos hx]
        have := div_up (y := x - s) hf h2 (by omega)
        have h0 := par_lt (f := f) (x := x) (b :: r) (s + a) (pos_tl h).2 (by omega)
        rw [h0]; omega
      · rw [if_neg hx]

theorem lvl_lt {x : Int} : ∀ (L : List Int) (s : Int) (i : Nat), pos L → x < s → lvl x s i L = none
  | [], _, _, _, _ => rfl
  | a :: r, s, i, h, hx => by
    have ha := (pos_tl h).1
    simp only [lvl]
    rw [if_neg (by omega)]
    exact lvl_lt r _ _ (pos_tl h).2 (by omega)

theorem chl_lvl {f x : Int} (L : List Int) : ∀ (r : List Int) (a s : Int) (i : Nat), L.drop i = a :: r →
    chl f x s (a :: r) = match lvl x (s + a) (i + 1) r with | some (j, t) => kids f (t - L.getD (j - 1) 0) (L.getD (j - 1) 0) (x - t) f.toNat | none => []
  | [], a, s, i, h => rfl
  | b :: r, a, s, i, h => by
    obtain ⟨h1, h2, h3⟩ := at_drop h
    have h4 : L.getD i 0 = a := by simpa using h2
    simp only [chl, lvl]
    by_cases hq : s + a ≤ x ∧ x < s + a + b
    · rw [if_pos hq, if_pos hq]
      simp only [Nat.add_sub_cancel, h4]
      rw [show s + a - a = s by omega]
    · rw [if_neg hq, if_neg hq]
      exact chl_lvl L r b (s + a) (i + 1) h3

theorem chs_chl {f x : Int} : ∀ L : List Int, pos L → chs f x L = chl f x 0 L
  | [], h => rfl
  | a :: r, h => by
    rw [chl_lvl (a :: r) r a 0 0 rfl]
    unfold chs
    simp only [lvl]
    by_cases hq : (0 : Int) ≤ x ∧ x < 0 + a
    · rw [if_pos hq, lvl_lt r _ _ (pos_tl h).2 (by omega)]
    · rw [if_neg hq]
      cases e : lvl x (0 + a) (0 + 1) r with
      | none => rfl
      | some v =>
        obtain ⟨j, t⟩ := v
        obtain ⟨p, a', q, e1, e2, e3, e4, e5⟩ := lvl_spec _ _ _ _ _ e
        cases j with
        | zero => omega
        | succ j => simp

theorem chs59l {β : Type} {x n f c u : Int} {K : List Int → Option β} (hf : 2 ≤ f ∧ f ≤ 4) {L : List Int} (hL : pos L) (hl : L.length ≤ 128) : ∀ (r : List Int) (i k : Nat) (s : Int), L.drop i = r → i ≤ L.length → r.length < k → 0 ≤ s → s ≤ 128 * i →
    f17_1_l4 20000 x n f c u L K (K []) k s (i : Int) = K (chl f x s r)
  | [], i, k, s, hd, hi, hk, h0, h1 => by
    cases k with
    | zero => omega
    | succ k =>
      have : i = L.length := by
        have := congrArg List.length hd
        simp at this; omega
      subst this
      simp only [f17_1_l4]
      rw [w64 (by omega) (by omega), cf (by omega)]
      rfl
  | [a], i, k, s, hd, hi, hk, h0, h1 => by
    cases k with
    | zero => omega
    | succ k =>
      have : i + 1 = L.length := by
        have := congrArg List.length hd
        simp at this; omega
      simp only [f17_1_l4]
      rw [w64 (by omega) (by omega), cf (by omega)]
      rfl
  | a :: b :: r, i, k, s, hd, hi, hk, h0, h1 => by
    cases k with
    | zero => omega
    | succ k =>
      obtain ⟨d1, d2, d3⟩ := at_drop hd
      obtain ⟨d4, d5, d6⟩ := at_drop d3
      have ha : 1 ≤ a ∧ a ≤ 128 := hL a (by
        have : a ∈ L.drop i := by rw [hd]; simp
        exact List.mem_of_mem_drop this)
      have hb : 1 ≤ b ∧ b ≤ 128 := hL b (by
        have : b ∈ L.drop (i + 1) := by rw [d3]; simp
        exact List.mem_of_mem_drop this)
      have e1 : IntKind.i64.wrap ((i : Int) + 1) = ((i + 1 : Nat) : Int) := by rw [w64 (by omega) (by omega)]; omega
      have ih := chs59l (x := x) (n := n) (c := c) (u := u) (K := K) hf hL hl (b :: r) (i + 1) k (s + a) d3 (by omega) (by simpa using hk) (by omega) (by omega)
      simp only [f17_1_l4]
      rw [e1, ct (by omega), ct (by omega), ct (by omega), d2, w64 (x := s + a) (by omega) (by omega)]
      simp only [chl]
      by_cases hq : x ≥ s + a
      · rw [ct hq, ct (by omega), ct (by omega), d5, w64 (x := s + a + b) (by omega) (by omega)]
        by_cases hq2 : x < s + a + b
        · rw [ct hq2, if_pos (by omega)]
          have := kids59 (F := 20000) (n := n) (c := c) (u := u) (K := K) (node := x) (s := s) (above := s + a) (a := a) (l := L) (j := i) hf (by omega) d1 d2 ha rfl (by omega) f.toNat 0 20000 (by omega) (by omega)
          simpa [kids] using this
        · rw [cf hq2, if_neg (by omega)]
          exact ih
      · rw [cf hq, if_neg (by omega)]
        exact ih

theorem lev_pos (n f c u : Int) : pos (levels n f c u) := (levels_ok n f c u).2

theorem levels_not {n f c u : Int} (h : ¬ rt n f c u) : levels n f c u = [] := by simp [levels, h]
theorem levels_cons {n f c u : Int} (h : rt n f c u) : ∃ r, levels n f c u = n :: r := ⟨_, by simp [levels, h]; rfl⟩

theorem lev_chain {n f c u : Int} : rt n f c u → chain f (levels n f c u) := fun h => by
  simp only [levels, h, if_true]
  have h1 := h.1
  exact chain_lv h.2.1 20000 n h1.1 h1.2 (by omega)

theorem nil59 {β : Type} {x n f c u : Int} {K : List Int → Option β} : ∀ k : Nat, 0 < k → f17_1_l4 20000 x n f c u [] K (K []) k 0 0 = K []
  | 0, h => by omega
  | k + 1, _ => by
    simp only [f17_1_l4]
    rw [w64 (by omega) (by omega), cf (by simp)]

theorem chs59 {β : Type} {n f c u x : Int} {K : List Int → Option β} : f17_1 20000 n f c u x K = K (chs f x (levels n f c u)) := by
  rw [chs_chl _ (lev_pos n f c u)]
  simp only [f17_1, levels49]
  by_cases h : rt n f c u
  · have := chs59l (x := x) (n := n) (c := c) (u := u) (K := K) h.2.1 (lev_pos n f c u) (levels_ok n f c u).1 _ 0 20000 0 rfl (by omega) (by have := (levels_ok n f c u).1; simp; omega) (by omega) (by omega)
    simpa using this
  · rw [levels_not h]
    exact nil59 20000 (by omega)

/-- The parent, by the levels. -/
def prn (n f c u x : Int) : Int := par f x 0 (levels n f c u)

theorem par_lvl {f x : Int} (hf : 2 ≤ f ∧ f ≤ 4) : ∀ (r : List Int) (a s : Int) (i : Nat), pos (a :: r) → chain f (a :: r) →
    par f x s (a :: r) = match lvl x s i (a :: r) with | some (j, t) => if x = s + sumI (a :: r) - 1 then -1 else t + (a :: r).getD (j - i) 0 + (x - t) / f | none => -1
  | [], a, s, i, h, hc => by
    have hc : a = 1 := hc
    subst hc
    have e1 : sumI [1] = 1 := rfl
    simp only [par, lvl]
    by_cases hx : s ≤ x ∧ x < s + 1
    · rw [if_pos hx]
      simp only
      rw [if_pos (by omega)]
    · rw [if_neg hx]
  | b :: r, a, s, i, h, hc => by
    have ha := (pos_tl h).1
    have hb := (pos_tl (pos_tl h).2).1
    have hs := sum_nn (pos_tl (pos_tl h).2).2
    obtain ⟨h1, h2, h3⟩ := hc
    rw [par, lvl]
    by_cases hx : s ≤ x ∧ x < s + a
    · have e1 : sumI (a :: b :: r) = a + (b + sumI r) := rfl
      rw [if_pos hx, if_pos hx]
      simp only
      rw [if_neg (by omega)]
      simp
    · rw [if_neg hx, if_neg hx, par_lvl hf r b (s + a) (i + 1) (pos_tl h).2 h3]
      cases e : lvl x (s + a) (i + 1) (b :: r) with
      | none => rfl
      | some v =>
        obtain ⟨j, t⟩ := v
        obtain ⟨p, a', q, e1, e2, e3, e4, e5⟩ := lvl_spec _ _ _ _ _ e
        simp only
        have g1 : s + sumI (a :: b :: r) - 1 = s + a + sumI (b :: r) - 1 := by simp only [sumI]; omega
        have g2 : (a :: b :: r).getD (j - i) 0 = (b :: r).getD (j - (i + 1)) 0 := by
          rw [show j - i = (j - (i + 1)) + 1 by omega]
          simp
        rw [g1, g2]

theorem chs_len (f x : Int) (L : List Int) : (chs f x L).length ≤ f.toNat := by
  unfold chs
  split
  · exact kids_len _ _ _ _ _
  · simp

theorem chs_mem {n f c u x k : Int} (h : rt n f c u) (hk : 0 ≤ k) : x ∈ chs f k (levels n f c u) ↔ prn n f c u x = k := by
  obtain ⟨r, hr⟩ := levels_cons h
  have hc := lev_chain h
  have hp := lev_pos n f c u
  rw [chs_chl _ hp, prn]
  rw [hr] at hc hp ⊢
  exact mem_chl h.2.1 r n 0 hp hc (by omega) hk

theorem prn_bd {n f c u x : Int} (h : rt n f c u) : prn n f c u x = -1 ∨ (0 ≤ x ∧ x < prn n f c u x ∧ n ≤ prn n f c u x ∧ prn n f c u x < nodes n f c u) := by
  obtain ⟨r, hr⟩ := levels_cons h
  have hc := lev_chain h
  have hp := lev_pos n f c u
  unfold nodes prn
  rw [hr] at hc hp ⊢
  have := par_bd (x := x) h.2.1 r n 0 hp hc
  omega

def root (n f c u : Int) : Int := if rt n f c u then nodes n f c u - 1 else 0

theorem root54 {β : Type} {n f c u : Int} {K : Int → Option β} : f57_1 20000 n f c u K = K (root n f c u) := by
  obtain ⟨n0, n1, n2, n3⟩ := nodes_ok n f c u
  simp only [f57_1, nodes50, root]
  rw [w64 (by omega) (by omega)]
  by_cases h : rt n f c u
  · have := n2 h
    rw [if_pos h]; congr 1; split <;> omega
  · rw [if_neg h, n3 h]; rfl

theorem root55 {β : Type} {n f c u : Int} {K : Int → Option β} : f71_1 20000 n f c u K = K (root n f c u) := by
  obtain ⟨n0, n1, n2, n3⟩ := nodes_ok n f c u
  simp only [f71_1, nodes51, root]
  rw [w64 (by omega) (by omega)]
  by_cases h : rt n f c u
  · have := n2 h
    rw [if_pos h]; congr 1; split <;> omega
  · rw [if_neg h, n3 h]; rfl

end Go.Proofs.Ytillbabmlfjegaa.X
end

section
/- Trees' shapes: which nodes have children; any seat. -/
namespace Go.Proofs.Ytillbabmlfjegaa.X
open Go Go.Proofs.Ytillbabmlfjegaa.Ev
set_option linter.unusedVariables false
theorem chl_ne {f k : Int} (hf : 2 ≤ f ∧ f ≤ 4) : ∀ (r : List Int) (a s : Int), pos (a :: r) → chain f (a :: r) → s + a ≤ k → k < s + sumI (a :: r) → chl f k s (a :: r) ≠ []
  | [], a, s, h, hc, h0, h1 => by
    have e1 : sumI [a] = a + 0 := rfl
    omega
  | b :: r, a, s, h, hc, h0, h1 => by
    obtain ⟨g1, g2, g3⟩ := hc
    have e1 : sumI (a :: b :: r) = a + sumI (b :: r) := rfl
    simp only [chl]
    by_cases hq : s + a ≤ k ∧ k < s + a + b
    · rw [if_pos hq]
      intro hn
      have hm := (kids_mem (f := f) (s := s) (a := a) (q := k - (s + a)) (x := s + (k - (s + a)) * f) hf (by omega)).2
      rw [hn] at hm
      have : f = 2 ∨ f = 3 ∨ f = 4 := by omega
      rcases this with rfl | rfl | rfl <;> exact List.not_mem_nil (hm (by omega))
    · rw [if_neg hq]
      exact chl_ne hf r b (s + a) (pos_tl h).2 g3 (by omega) (by omega)

theorem par_root {f x : Int} (hf : 2 ≤ f ∧ f ≤ 4) : ∀ (r : List Int) (a s : Int), pos (a :: r) → chain f (a :: r) → 0 ≤ s → s ≤ x → x < s + sumI (a :: r) → (par f x s (a :: r) = -1 ↔ x = s + sumI (a :: r) - 1)
  | [], a, s, h, hc, hs, h0, h1 => by
    have hc : a = 1 := hc
    subst hc
    have e1 : sumI [1] = 1 := rfl
    simp only [par, true_iff]
    omega
  | b :: r, a, s, h, hc, hs, h0, h1 => by
    have ha := (pos_tl h).1
    have hb := (pos_tl (pos_tl h).2).1
    have hn := sum_nn (pos_tl (pos_tl h).2).2
    have e1 : sumI (a :: b :: r) = a + sumI (b :: r) := rfl
    have e2 : sumI (b :: r) = b + sumI r := rfl
    obtain ⟨g1, g2, g3⟩ := hc
    simp only [par]
    by_cases hx : s ≤ x ∧ x < s + a
    · have hd := div_up (y := x - s) hf g2 (by omega)
      rw [if_pos hx]
      omega
    · rw [if_neg hx, par_root hf r b (s + a) (pos_tl h).2 g3 (by omega) (by omega) (by omega)]
      omega

theorem chs_empty {n f c u k : Int} (h : rt n f c u) (h0 : 0 ≤ k) (h1 : k < nodes n f c u) : (((chs f k (levels n f c u)).length : Int) == 0) = decide (k < n) := by
  by_cases hk : k < n
  · have : chs f k (levels n f c u) = [] := by
      apply List.eq_nil_iff_forall_not_mem.2
      intro x hx
      have := (chs_mem h h0).1 hx
      have := prn_bd (x := x) h
      omega
    simp [this, hk]
  · have : chs f k (levels n f c u) ≠ [] := by
      obtain ⟨r, hr⟩ := levels_cons h
      have hc := lev_chain h
      have hp := lev_pos n f c u
      unfold nodes at h1
      rw [chs_chl _ hp]
      rw [hr] at hc hp h1 ⊢
      exact chl_ne h.2.1 r n 0 hp hc (by omega) (by omega)
    have : (chs f k (levels n f c u)).length ≠ 0 := fun h => this (List.length_eq_zero_iff.1 h)
    simp only [hk, decide_false]
    simpa using this

theorem prn_root {n f c u x : Int} (h : rt n f c u) (h0 : 0 ≤ x) (h1 : x < nodes n f c u) : prn n f c u x = -1 ↔ x = nodes n f c u - 1 := by
  obtain ⟨r, hr⟩ := levels_cons h
  have hc := lev_chain h
  have hp := lev_pos n f c u
  unfold nodes at h1 ⊢
  unfold prn
  rw [hr] at hc hp h1 ⊢
  have := par_root (x := x) h.2.1 r n 0 hp hc (by omega) h0 (by omega)
  omega

theorem chs_sorted {n f c u k : Int} : (chs f k (levels n f c u)).Pairwise (· < ·) := by
  unfold chs
  split
  · exact kids_nodup _
  · exact List.Pairwise.nil

theorem n_le {n f c u : Int} (h : rt n f c u) : n ≤ nodes n f c u := by
  obtain ⟨r, hr⟩ := levels_cons h
  have hp := lev_pos n f c u
  unfold nodes
  rw [hr] at hp ⊢
  have := sum_nn (pos_tl hp).2
  simp only [sumI]; omega

theorem sum_up {f : Int} (hf : 2 ≤ f ∧ f ≤ 4) : ∀ (r : List Int) (a : Int), pos (a :: r) → chain f (a :: r) → sumI (a :: r) ≤ 3 * a - 2
  | [], a, h, hc => by
    have hc : a = 1 := hc
    subst hc
    decide
  | b :: r, a, h, hc => by
    obtain ⟨g1, g2, g3⟩ := hc
    have e1 : sumI (a :: b :: r) = a + sumI (b :: r) := rfl
    have ih := sum_up hf r b (pos_tl h).2 g3
    have : f = 2 ∨ f = 3 ∨ f = 4 := by omega
    rcases this with rfl | rfl | rfl <;> omega

theorem nodes_up {n f c u : Int} (h : rt n f c u) : nodes n f c u ≤ 384 := by
  obtain ⟨r, hr⟩ := levels_cons h
  have hc := lev_chain h
  have hp := lev_pos n f c u
  have h1 := h.1
  unfold nodes
  rw [hr] at hc hp ⊢
  have := sum_up h.2.1 r n hp hc
  omega

end Go.Proofs.Ytillbabmlfjegaa.X
end

section
/- Digests of sectors and of nodes: the code's and the document's are one. -/
namespace Go.Proofs.Ytillbabmlfjegaa.X
open Go Go.Proofs.Ytillbabmlfjegaa.Ev
set_option linter.unusedVariables false

theorem toInts_app (a b : ByteArray) : toInts (a ++ b) = toInts a ++ toInts b := by simp [toInts]
theorem toInts_len (a : ByteArray) : (toInts a).length = a.size := by simp [toInts]
theorem ofInts_size (l : List Int) : (ofInts l).size = l.length := by simp [ofInts, ByteArray.size]
theorem toInts_one (c : UInt8) : toInts ⟨#[c]⟩ = [(c.toNat : Int)] := rfl
theorem outs_len (s : List Int) : ∀ (m i : Nat) (acc : List Int), (outs s m i acc).length = acc.length + 4 * m
  | 0, i, acc => rfl
  | m + 1, i, acc => by simp only [outs]; rw [outs_len s m]; simp; omega
theorem dig_size (b : List Int) : (dig b).size = 32 := by simp [dig, ofInts_size, outs_len]

def leafD (s : ByteArray) : ByteArray := dig (0 :: toInts s)
def flat : List ByteArray → List Int
  | [] => []
  | x :: r => toInts x ++ flat r
def nodeD (l : List ByteArray) : ByteArray := dig (1 :: flat l)

theorem atB {l r : List ByteArray} {x : ByteArray} {i : Nat} (hd : l.drop i = x :: r) : i < l.length ∧ l.getD (0 + (i : Int).toNat) ByteArray.empty = x ∧ l.drop (i + 1) = r := by
  have hlen : l.length - i = r.length + 1 := by
    have := congrArg List.length hd
    simpa using this
  have hx : l[i]? = some x := by
    have := congrArg (·[0]?) hd
    simpa using this
  refine ⟨by omega, ?_, ?_⟩
  · rw [List.getD_eq_getElem?_getD]; simp [hx]
  · rw [← List.drop_drop, hd]; rfl

theorem nilB {l : List ByteArray} {i : Nat} (hd : l.drop i = []) (hi : i ≤ l.length) : i = l.length := by
  have := congrArg List.length hd
  simp at this; omega

theorem tagL {β : Type} {F : Nat} {l : List ByteArray} {K : List Int → Int → List Int → Option β} (hF : 2000 ≤ F) (hl : l.length ≤ 100000) : ∀ (r : List ByteArray) (i k : Nat) (all s w : List Int) (n : Int), l.drop i = r → i ≤ l.length → r.length < k → HS all s n w → (all ++ flat r).length ≤ 100000 →
    ∃ s' n' w', HS (all ++ flat r) s' n' w' ∧ f97_1_l4 F ((l.length : Nat) : Int) l K k (i : Int) s n w = K s' n' w'
  | [], i, k, all, s, w, n, hd, hi, hk, h, hb => by
    obtain ⟨k, rfl⟩ : ∃ j, k = j + 1 := ⟨k - 1, by omega⟩
    have := nilB hd hi
    refine ⟨s, n, w, by simpa [flat] using h, ?_⟩
    simp only [f97_1_l4]
    rw [cf (by omega)]
  | x :: r, i, k, all, s, w, n, hd, hi, hk, h, hb => by
    obtain ⟨k, rfl⟩ : ∃ j, k = j + 1 := ⟨k - 1, by omega⟩
    obtain ⟨d1, d2, d3⟩ := atB hd
    have hb2 : (all ++ toInts x).length ≤ 100000 := by simp [flat] at hb ⊢; omega
    simp only [f97_1_l4]
    rw [ct (by omega), ct (by omega), ct (by omega), d2, w64 (by omega) (by omega), show ((i : Int) + 1) = ((i + 1 : Nat) : Int) by omega]
    obtain ⟨s1, w1, h1, h2⟩ := writeP (F := F) (b := toInts x) (K := fun x12 x13 x14 => f97_1_l4 F ((l.length : Nat) : Int) l K k ((i + 1 : Nat) : Int) x12 x13 x14) hF h hb2
    obtain ⟨s2, n2, w2, h3, h4⟩ := tagL (K := K) hF hl r (i + 1) k (all ++ toInts x) s1 w1 _ d3 (by omega) (by simpa using hk) h1 (by simpa [flat] using hb)
    refine ⟨s2, n2, w2, by simpa [flat] using h3, ?_⟩
    rw [h2, h4]

theorem flat_len : ∀ l : List ByteArray, l.length ≤ 100000 → (∀ x ∈ l, x.size ≤ 100) → (flat l).length ≤ 100 * l.length
  | [], _, _ => by simp [flat]
  | x :: r, h, hx => by
    have := flat_len r (by simp at h; omega) fun y hy => hx y (by simp [hy])
    have h2 := hx x (by simp)
    simp only [flat, List.length_append, toInts_len, List.length_cons]
    omega

theorem tagged {β : Type} {F : Nat} {a : Int} {l : List ByteArray} {K : ByteArray → Option β} (hF : 2000 ≤ F) (hl : l.length ≤ 900) (hs : ∀ x ∈ l, x.size ≤ 100) : f97_1 F a l K = K (dig (a :: flat l)) := by
  have hb := flat_len l (by omega) hs
  simp only [f97_1, f115_1, f129_1]
  obtain ⟨s', w', h1, h2⟩ := writeP (F := F) (b := [a]) (K := fun x3 x4 x5 => f97_1_l4 F ((l.length : Nat) : Int) l (fun x15 x16 x17 => f117_1 F x15 x16 x17 fun x18 => K x18) F 0 x3 x4 x5) hF HS_nil (by simp)
  obtain ⟨s2, n2, w2, h3, h4⟩ := tagL (F := F) (l := l) (K := fun x15 x16 x17 => f117_1 F x15 x16 x17 fun x18 => K x18) hF (by omega) l 0 F ([] ++ [a]) s' w' _ rfl (by omega) (by omega) h1 (by simp; omega)
  refine h2.trans ?_
  refine h4.trans ?_
  rw [sumP hF h3 (by simp; omega)]
  rfl

theorem leafP {β : Type} {F : Nat} {x : ByteArray} {K : ByteArray → Option β} (hF : 2000 ≤ F) (hx : x.size ≤ 100) : f56_1 F x K = K (leafD x) := by
  simp only [f56_1]
  rw [tagged hF (by simp) (by simpa using hx)]
  simp [leafD, flat]

theorem leafR {β : Type} {F : Nat} {x : ByteArray} {K : ByteArray → Option β} (hF : 2000 ≤ F) (hx : x.size ≤ 100) : f60_1 F x K = K (leafD x) := by
  have h1 : (⟨#[0]⟩ : ByteArray).size = 1 := rfl
  simp only [f60_1]
  rw [ct (by omega), toInts_app, sumR (by simp [toInts_len, h1]; omega) hF]
  rfl

theorem nodeP {β : Type} {F : Nat} {l : List ByteArray} {K : ByteArray → Option β} (hF : 2000 ≤ F) (hl : l.length ≤ 900) (hs : ∀ x ∈ l, x.size ≤ 100) : f69_1 F l K = K (nodeD l) := by
  simp only [f69_1]
  rw [tagged hF hl hs]
  rfl

def cat : ByteArray → List ByteArray → ByteArray
  | s, [] => s
  | s, x :: r => cat (s ++ x) r

theorem cat_ints : ∀ (r : List ByteArray) (s : ByteArray), toInts (cat s r) = toInts s ++ flat r
  | [], s => by simp [cat, flat]
  | x :: r, s => by simp [cat, flat, cat_ints r, toInts_app]

theorem nodeL {β : Type} {F : Nat} {l : List ByteArray} {K : ByteArray → Option β} (hl : l.length ≤ 900) (hs : ∀ x ∈ l, x.size ≤ 100) : ∀ (r : List ByteArray) (i k : Nat) (s : ByteArray), l.drop i = r → i ≤ l.length → r.length < k → s.size ≤ 100 * i + 1 →
    f77_1_l3 F l K k s (i : Int) = K (cat s r)
  | [], i, k, s, hd, hi, hk, hb => by
    obtain ⟨k, rfl⟩ : ∃ j, k = j + 1 := ⟨k - 1, by omega⟩
    have := nilB hd hi
    simp only [f77_1_l3]
    rw [cf (by omega)]; rfl
  | x :: r, i, k, s, hd, hi, hk, hb => by
    obtain ⟨k, rfl⟩ : ∃ j, k = j + 1 := ⟨k - 1, by omega⟩
    obtain ⟨d1, d2, d3⟩ := atB hd
    have hx := hs x (by
      have : x ∈ l.drop i := by rw [hd]; simp
      exact List.mem_of_mem_drop this)
    simp only [f77_1_l3]
    rw [ct (by omega), ct (by omega), ct (by omega), d2, ct (by omega), w64 (by omega) (by omega), show ((i : Int) + 1) = ((i + 1 : Nat) : Int) by omega]
    exact nodeL hl hs r (i + 1) k _ d3 (by omega) (by simpa using hk) (by rw [ByteArray.size_append]; omega)

theorem nodeR {β : Type} {F : Nat} {l : List ByteArray} {K : ByteArray → Option β} (hF : 2000 ≤ F) (hl : l.length ≤ 900) (hs : ∀ x ∈ l, x.size ≤ 100) : f77_1 F l K = K (nodeD l) := by
  have hb := flat_len l (by omega) hs
  have h1 : (⟨#[1]⟩ : ByteArray).size = 1 := rfl
  have := nodeL (F := F) (K := fun x4 => f98_1 F (toInts x4) fun x5 => K x5) hl hs l 0 F ⟨#[1]⟩ rfl (by omega) (by omega) (by omega)
  simp only [f77_1]
  refine Eq.trans this ?_
  rw [cat_ints, sumR (by simp [toInts_len, h1]; omega) hF]
  rfl

end Go.Proofs.Ytillbabmlfjegaa.X
end

section
namespace Go.Proofs.Ytillbabmlfjegaa.X
open Go Go.Proofs.Ytillbabmlfjegaa.Ev Go.Proofs
set_option linter.unusedVariables false
/-! tree.From -/
noncomputable def f25_1 {β : Type} (F : Nat) (a1 : Int) (a2 : Int) (a3 : Int) (a4 : Int) (a5 : List ByteArray) (K0 : Int → Option β) (K1 : List ByteArray → Option β) : Option β := f52_1 F a1 a2 a3 a4 (fun x1 => cond (!x1) (K0 12) (f72_1 F a1 a2 a3 a4 (fun x2 => cond (((a5.length : Nat) : Int) != x2) (K0 8) (f53_5041 F a5 (fun x3 => cond x3 (K0 4) (f74_1 F a5 (fun x4 => K1 x4) )) )) )) 
def sh25_1 : Sh := ⟨[.agg [.int .i64, .int .i64, .int .i64, .int .i64], .lf (.full 0)], [some ⟨none, [.seq .str 0]⟩]⟩
noncomputable def S25_1 (F : Nat) (o : Summ) : Summ := mkS sh25_1 (fun d K => f25_1 F d.1.1.1 d.1.1.2.1 d.1.1.2.2.1 d.1.1.2.2.2.1 d.2.1.2.1 (fun (y0 : Int) => K [.lf (.nilp), .lf (.int .i64 y0)] [some ⟨d.2.1.1, [.seq .str 0 d.2.1.2.1]⟩]) (fun (y6 : List ByteArray) => K [.lf (.ptr 1 0), .lf (.int .i64 0)] [some ⟨d.2.1.1, [.seq .str 0 d.2.1.2.1]⟩, some ⟨false, [.int .i64 d.1.1.1, .int .i64 d.1.1.2.1, .int .i64 d.1.1.2.2.1, .int .i64 d.1.1.2.2.2.1, .full 2]⟩, some ⟨false, [.seq .str 0 y6]⟩])) o
noncomputable def code25 : Code := bodyOf Try.f25
theorem scopes25 : scopesOf code25 = [] := by kernel_rfl
theorem loops25 : loopsOf code25 = [] := by kernel_rfl
theorem enter25 : ∀ args w, (callFunc 25 args).run Try.prog w = .ok (.enter 25 args) w := enter_of (fn := Try.f25) (by kernel_rfl) (by kernel_rfl) (by kernel_rfl)
noncomputable def T25_1 (F : Nat) : FuncId → Option Summ := tab [(52, (S52_1 F noS)), (53, (S53_5041 F noS)), (72, (S72_1 F noS)), (74, (S74_1 F noS))]
noncomputable def LT25_1 (F : Nat) : Nat → Option LoopS := ltab []
theorem E25_1g (F : Nat) (c52_1 : Int → Int → Int → Int → (Bool → Option Res) → Option Res) (c53_5041 : List ByteArray → (Bool → Option Res) → Option Res) (c72_1 : Int → Int → Int → Int → (Int → Option Res) → Option Res) (c74_1 : List ByteArray → (List ByteArray → Option Res) → Option Res)   (d : sh25_1.den) (K : KF) : evBody Try.prog (tab [(52, (mkS sh52_1 (fun d K => c52_1 d.1.1.1 d.1.1.2.1 d.1.1.2.2.1 d.1.1.2.2.2.1 (fun (y0 : Bool) => K [.lf (.bool y0)] [])) noS)), (53, (mkS sh53_5041 (fun d K => c53_5041 d.2.1.2.1 (fun (y0 : Bool) => K [.lf (.bool y0)] [some ⟨d.2.1.1, [.seq .str 0 d.2.1.2.1]⟩])) noS)), (72, (mkS sh72_1 (fun d K => c72_1 d.1.1.1 d.1.1.2.1 d.1.1.2.2.1 d.1.1.2.2.2.1 (fun (y0 : Int) => K [.lf (.int .i64 y0)] [])) noS)), (74, (mkS sh74_1 (fun d K => c74_1 d.2.1.2.1 (fun (y1 : List ByteArray) => K [.lf (.full 1)] [some ⟨d.2.1.1, [.seq .str 0 d.2.1.2.1]⟩, some ⟨false, [.seq .str 0 y1]⟩])) noS))]) 24 1 (ltab []) code25 Try.f25.results.toList (encT sh25_1.vs d.1) (encH sh25_1.h d.2) K = (fun (a1 : Int) (a2 : Int) (a3 : Int) (a4 : Int) (a5 : List ByteArray) (K0 : (Int → Option Res)) (K1 : (List ByteArray → Option Res)) => c52_1 a1 a2 a3 a4 (fun x1 => cond (!x1) (K0 12) (c72_1 a1 a2 a3 a4 (fun x2 => cond (((a5.length : Nat) : Int) != x2) (K0 8) (c53_5041 a5 (fun x3 => cond x3 (K0 4) (c74_1 a5 (fun x4 => K1 x4) )) )) )) ) d.1.1.1 d.1.1.2.1 d.1.1.2.2.1 d.1.1.2.2.2.1 d.2.1.2.1 (fun (y0 : Int) => K [.lf (.nilp), .lf (.int .i64 y0)] [some ⟨d.2.1.1, [.seq .str 0 d.2.1.2.1]⟩]) (fun (y6 : List ByteArray) => K [.lf (.ptr 1 0), .lf (.int .i64 0)] [some ⟨d.2.1.1, [.seq .str 0 d.2.1.2.1]⟩, some ⟨false, [.int .i64 d.1.1.1, .int .i64 d.1.1.2.1, .int .i64 d.1.1.2.2.1, .int .i64 d.1.1.2.2.2.1, .full 2]⟩, some ⟨false, [.seq .str 0 y6]⟩]) := by kernel_rfl
theorem E25_1 (F : Nat) (d : sh25_1.den) (K : KF) : evBody Try.prog (T25_1 F) 24 1 (LT25_1 F) code25 Try.f25.results.toList (encT sh25_1.vs d.1) (encH sh25_1.h d.2) K = f25_1 F d.1.1.1 d.1.1.2.1 d.1.1.2.2.1 d.1.1.2.2.2.1 d.2.1.2.1 (fun (y0 : Int) => K [.lf (.nilp), .lf (.int .i64 y0)] [some ⟨d.2.1.1, [.seq .str 0 d.2.1.2.1]⟩]) (fun (y6 : List ByteArray) => K [.lf (.ptr 1 0), .lf (.int .i64 0)] [some ⟨d.2.1.1, [.seq .str 0 d.2.1.2.1]⟩, some ⟨false, [.int .i64 d.1.1.1, .int .i64 d.1.1.2.1, .int .i64 d.1.1.2.2.1, .int .i64 d.1.1.2.2.2.1, .full 2]⟩, some ⟨false, [.seq .str 0 y6]⟩]) := Eq.mp (by kernel_rfl) (E25_1g F (f52_1 F) (f53_5041 F) (f72_1 F) (f74_1 F)   d K)
theorem S25_1_ok (F : Nat) (o : Summ) (ho : SoundFn Try.prog 25 o) : SoundFn Try.prog 25 (S25_1 F o) :=
  soundFn_of (fn := Try.f25) (c := code25) (by kernel_rfl) (tab_cons (S52_1_ok F _ (noS_sound enter52)) (tab_cons (S53_5041_ok F _ (noS_sound enter53)) (tab_cons (S72_1_ok F _ (noS_sound enter72)) (tab_cons (S74_1_ok F _ (noS_sound enter74)) tab_nil)))) (by kernel_rfl) (by kernel_rfl) ho (by rw [loops25]; exact loopsOK_nil) (by rw [scopes25]; exact scopesOK_nil) (E25_1 F)
end Go.Proofs.Ytillbabmlfjegaa.X
end

section
namespace Go.Proofs.Ytillbabmlfjegaa.X
open Go Go.Proofs.Ytillbabmlfjegaa.Ev Go.Proofs
set_option linter.unusedVariables false
/-! pentimentoref04.Right -/
noncomputable def f75_1 {β : Type} (F : Nat) (a1 : ByteArray) (K0 : Bool → Option β) : Option β := K0 ((a1.size : Int) == 32)
def sh75_1 : Sh := ⟨[.lf (.str)], []⟩
noncomputable def S75_1 (F : Nat) (o : Summ) : Summ := mkS sh75_1 (fun d K => f75_1 F d.1.1 (fun (y0 : Bool) => K [.lf (.bool y0)] [])) o
noncomputable def code75 : Code := bodyOf Try.f75
theorem scopes75 : scopesOf code75 = [] := by kernel_rfl
theorem loops75 : loopsOf code75 = [] := by kernel_rfl
theorem enter75 : ∀ args w, (callFunc 75 args).run Try.prog w = .ok (.enter 75 args) w := enter_of (fn := Try.f75) (by kernel_rfl) (by kernel_rfl) (by kernel_rfl)
noncomputable def T75_1 (F : Nat) : FuncId → Option Summ := tab []
noncomputable def LT75_1 (F : Nat) : Nat → Option LoopS := ltab []
theorem E75_1g (F : Nat)    (d : sh75_1.den) (K : KF) : evBody Try.prog (tab []) 6 0 (ltab []) code75 Try.f75.results.toList (encT sh75_1.vs d.1) (encH sh75_1.h d.2) K = (fun (a1 : ByteArray) (K0 : (Bool → Option Res)) => K0 ((a1.size : Int) == 32)) d.1.1 (fun (y0 : Bool) => K [.lf (.bool y0)] []) := by kernel_rfl
theorem E75_1 (F : Nat) (d : sh75_1.den) (K : KF) : evBody Try.prog (T75_1 F) 6 0 (LT75_1 F) code75 Try.f75.results.toList (encT sh75_1.vs d.1) (encH sh75_1.h d.2) K = f75_1 F d.1.1 (fun (y0 : Bool) => K [.lf (.bool y0)] []) := Eq.mp (by kernel_rfl) (E75_1g F    d K)
theorem S75_1_ok (F : Nat) (o : Summ) (ho : SoundFn Try.prog 75 o) : SoundFn Try.prog 75 (S75_1 F o) :=
  soundFn_of (fn := Try.f75) (c := code75) (by kernel_rfl) tab_nil (by kernel_rfl) (by kernel_rfl) ho (by rw [loops75]; exact loopsOK_nil) (by rw [scopes75]; exact scopesOK_nil) (E75_1 F)
end Go.Proofs.Ytillbabmlfjegaa.X
end

section
namespace Go.Proofs.Ytillbabmlfjegaa.X
open Go Go.Proofs.Ytillbabmlfjegaa.Ev Go.Proofs
set_option linter.unusedVariables false
/-! pentimentoref12.From -/
noncomputable def f26_1_l7 {β : Type} (F : Nat) (v4 : List ByteArray) (v5 : Int) (v6 : Int) (v7 : Int) (v8 : Int) (K0 : List ByteArray → Option β) (K1 : List ByteArray → Option β) : Nat → Int → List ByteArray → Option β
  | 0, _, _ => none
  | k + 1, v3, v9 => cond (decide (v3 < ((v4.length : Nat) : Int))) (cond (decide ((0 : Int) ≤ v3 ∧ v3 < ((v4.length : Nat) : Int))) (cond (decide (0 + v3.toNat < v4.length)) (f75_1 F (v4.getD (0 + v3.toNat) ByteArray.empty) (fun x10 => cond (!x10) (K0 v9) (cond (decide ((0 : Int) ≤ v3 ∧ v3 < ((v4.length : Nat) : Int))) (cond (decide (0 + v3.toNat < v4.length)) (cond (decide ((v9.length + 1) * 16 ≤ 70368744177664)) (f26_1_l7 F v4 v5 v6 v7 v8 K0 K1 k (IntKind.i64.wrap (v3 + 1)) (v9 ++ [v4.getD (0 + v3.toNat) ByteArray.empty])) none) none) none)) ) none) none) (K1 v9)
noncomputable def f26_1 {β : Type} (F : Nat) (a1 : Int) (a2 : Int) (a3 : Int) (a4 : Int) (a5 : List ByteArray) (K0 : Int → Option β) (K1 : List ByteArray → Option β) : Option β := f7_1 F a1 a2 a3 a4 (fun x1 => cond (!x1) (K0 12) (f14_1 F a1 a2 a3 a4 (fun x2 => cond (((a5.length : Nat) : Int) != x2) (K0 8) (f26_1_l7 F a5 a1 a2 a3 a4 (fun x11 => K0 4) (fun x12 => K1 x12) F 0 [])) )) 
def sh26_1 : Sh := ⟨[.agg [.int .i64, .int .i64, .int .i64, .int .i64], .lf (.full 0)], [some ⟨none, [.seq .str 0]⟩]⟩
noncomputable def S26_1 (F : Nat) (o : Summ) : Summ := mkS sh26_1 (fun d K => f26_1 F d.1.1.1 d.1.1.2.1 d.1.1.2.2.1 d.1.1.2.2.2.1 d.2.1.2.1 (fun (y0 : Int) => K [.lf (.nilp), .lf (.int .i64 y0)] [some ⟨d.2.1.1, [.seq .str 0 d.2.1.2.1]⟩]) (fun (y6 : List ByteArray) => K [.lf (.ptr 1 0), .lf (.int .i64 0)] [some ⟨d.2.1.1, [.seq .str 0 d.2.1.2.1]⟩, some ⟨false, [.int .i64 d.1.1.1, .int .i64 d.1.1.2.1, .int .i64 d.1.1.2.2.1, .int .i64 d.1.1.2.2.2.1, .full 2]⟩, some ⟨false, [.seq .str 0 y6]⟩])) o
noncomputable def code26 : Code := bodyOf Try.f26
noncomputable def b26_0 : Code := cB (cB (cR (cL (cR (cR (cR (cR (code26))))))))
theorem scopes26 : scopesOf code26 = [] := by kernel_rfl
theorem loops26 : loopsOf code26 = [b26_0] := by kernel_rfl
theorem enter26 : ∀ args w, (callFunc 26 args).run Try.prog w = .ok (.enter 26 args) w := enter_of (fn := Try.f26) (by kernel_rfl) (by kernel_rfl) (by kernel_rfl)
noncomputable def T26_1 (F : Nat) : FuncId → Option Summ := tab [(7, (S7_1 F noS)), (14, (S14_1 F noS)), (75, (S75_1 F noS))]
def sh26_1_l7 : Sh := ⟨[.lf (.full 0), .lf (.ptr 1 0), .lf (.int .i64)], [some ⟨none, [.seq .str 0]⟩, some ⟨some false, [.int .i64, .int .i64, .int .i64, .int .i64, .full 2]⟩, some ⟨some false, [.seq .str 0]⟩]⟩
noncomputable def G26_1_7 (F k : Nat) : LoopS := mkG sh26_1_l7 [1, 6, 7] (outT [(.exit 0, [6]), (.ret, [4, 5])]) (fun d K => f26_1_l7 F d.2.1.2.1 d.2.2.1.2.1 d.2.2.1.2.2.1 d.2.2.1.2.2.2.1 d.2.2.1.2.2.2.2.1 (fun (y6 : List ByteArray) => K .ret [.tv (.lf (.nilp)), .tv (.lf (.int .i64 4))] [some ⟨d.2.1.1, [.seq .str 0 d.2.1.2.1]⟩, some ⟨false, [.int .i64 d.2.2.1.2.1, .int .i64 d.2.2.1.2.2.1, .int .i64 d.2.2.1.2.2.2.1, .int .i64 d.2.2.1.2.2.2.2.1, .full 2]⟩, some ⟨false, [.seq .str 0 y6]⟩]) (fun (y5 : List ByteArray) => K (.exit 0) [.tv (.lf (.ptr 1 0))] [some ⟨d.2.1.1, [.seq .str 0 d.2.1.2.1]⟩, some ⟨false, [.int .i64 d.2.2.1.2.1, .int .i64 d.2.2.1.2.2.1, .int .i64 d.2.2.1.2.2.2.1, .int .i64 d.2.2.1.2.2.2.2.1, .full 2]⟩, some ⟨false, [.seq .str 0 y5]⟩]) k d.1.2.2.1 d.2.2.2.1.2.1)
noncomputable def LT26_1 (F : Nat) : Nat → Option LoopS := ltab [(7, G26_1_7 F F)]
theorem L26_1_7g (F k : Nat) (c7_1 : Int → Int → Int → Int → (Bool → Option Res) → Option Res) (c14_1 : Int → Int → Int → Int → (Int → Option Res) → Option Res) (c75_1 : ByteArray → (Bool → Option Res) → Option Res)  (l7 : List ByteArray → Int → Int → Int → Int → (List ByteArray → Option Res) → (List ByteArray → Option Res) → Nat → Int → List ByteArray → Option Res) (X7 : LoopS) (d : sh26_1_l7.den) (K : KL) : (fun (v4 : List ByteArray) (v5 : Int) (v6 : Int) (v7 : Int) (v8 : Int) (K0 : (List ByteArray → Option Res)) (K1 : (List ByteArray → Option Res)) (k : Nat) (v3 : Int) (v9 : List ByteArray) => cond (decide (v3 < ((v4.length : Nat) : Int))) (cond (decide ((0 : Int) ≤ v3 ∧ v3 < ((v4.length : Nat) : Int))) (cond (decide (0 + v3.toNat < v4.length)) (c75_1 (v4.getD (0 + v3.toNat) ByteArray.empty) (fun x10 => cond (!x10) (K0 v9) (cond (decide ((0 : Int) ≤ v3 ∧ v3 < ((v4.length : Nat) : Int))) (cond (decide (0 + v3.toNat < v4.length)) (cond (decide ((v9.length + 1) * 16 ≤ 70368744177664)) (l7 v4 v5 v6 v7 v8 K0 K1 k (IntKind.i64.wrap (v3 + 1)) (v9 ++ [v4.getD (0 + v3.toNat) ByteArray.empty])) none) none) none)) ) none) none) (K1 v9)) d.2.1.2.1 d.2.2.1.2.1 d.2.2.1.2.2.1 d.2.2.1.2.2.2.1 d.2.2.1.2.2.2.2.1 (fun (y6 : List ByteArray) => K .ret [.tv (.lf (.nilp)), .tv (.lf (.int .i64 4))] [some ⟨d.2.1.1, [.seq .str 0 d.2.1.2.1]⟩, some ⟨false, [.int .i64 d.2.2.1.2.1, .int .i64 d.2.2.1.2.2.1, .int .i64 d.2.2.1.2.2.2.1, .int .i64 d.2.2.1.2.2.2.2.1, .full 2]⟩, some ⟨false, [.seq .str 0 y6]⟩]) (fun (y5 : List ByteArray) => K (.exit 0) [.tv (.lf (.ptr 1 0))] [some ⟨d.2.1.1, [.seq .str 0 d.2.1.2.1]⟩, some ⟨false, [.int .i64 d.2.2.1.2.1, .int .i64 d.2.2.1.2.2.1, .int .i64 d.2.2.1.2.2.2.1, .int .i64 d.2.2.1.2.2.2.2.1, .full 2]⟩, some ⟨false, [.seq .str 0 y5]⟩]) k d.1.2.2.1 d.2.2.2.1.2.1 = roundOf Try.prog (tab [(7, (mkS sh7_1 (fun d K => c7_1 d.1.1.1 d.1.1.2.1 d.1.1.2.2.1 d.1.1.2.2.2.1 (fun (y0 : Bool) => K [.lf (.bool y0)] [])) noS)), (14, (mkS sh14_1 (fun d K => c14_1 d.1.1.1 d.1.1.2.1 d.1.1.2.2.1 d.1.1.2.2.2.1 (fun (y0 : Int) => K [.lf (.int .i64 y0)] [])) noS)), (75, (mkS sh75_1 (fun d K => c75_1 d.1.1 (fun (y0 : Bool) => K [.lf (.bool y0)] [])) noS))]) 45 1 (ltab [(7, X7)]) (mkG sh26_1_l7 [1, 6, 7] (outT [(.exit 0, [6]), (.ret, [4, 5])]) (fun d K => l7 d.2.1.2.1 d.2.2.1.2.1 d.2.2.1.2.2.1 d.2.2.1.2.2.2.1 d.2.2.1.2.2.2.2.1 (fun (y6 : List ByteArray) => K .ret [.tv (.lf (.nilp)), .tv (.lf (.int .i64 4))] [some ⟨d.2.1.1, [.seq .str 0 d.2.1.2.1]⟩, some ⟨false, [.int .i64 d.2.2.1.2.1, .int .i64 d.2.2.1.2.2.1, .int .i64 d.2.2.1.2.2.2.1, .int .i64 d.2.2.1.2.2.2.2.1, .full 2]⟩, some ⟨false, [.seq .str 0 y6]⟩]) (fun (y5 : List ByteArray) => K (.exit 0) [.tv (.lf (.ptr 1 0))] [some ⟨d.2.1.1, [.seq .str 0 d.2.1.2.1]⟩, some ⟨false, [.int .i64 d.2.2.1.2.1, .int .i64 d.2.2.1.2.2.1, .int .i64 d.2.2.1.2.2.2.1, .int .i64 d.2.2.1.2.2.2.2.1, .full 2]⟩, some ⟨false, [.seq .str 0 y5]⟩]) k d.1.2.2.1 d.2.2.2.1.2.1)) b26_0 (encT sh26_1_l7.vs d.1) (encH sh26_1_l7.h d.2) K := by kernel_rfl
theorem L26_1_7 (F : Nat) : LoopOK Try.prog (T26_1 F) 45 1 (LT26_1 F) (G26_1_7 F F) b26_0 :=
  loopOK_of (s := sh26_1_l7) (live := [1, 6, 7]) (out := (outT [(.exit 0, [6]), (.ret, [4, 5])])) (fun k d K => f26_1_l7 F d.2.1.2.1 d.2.2.1.2.1 d.2.2.1.2.2.1 d.2.2.1.2.2.2.1 d.2.2.1.2.2.2.2.1 (fun (y6 : List ByteArray) => K .ret [.tv (.lf (.nilp)), .tv (.lf (.int .i64 4))] [some ⟨d.2.1.1, [.seq .str 0 d.2.1.2.1]⟩, some ⟨false, [.int .i64 d.2.2.1.2.1, .int .i64 d.2.2.1.2.2.1, .int .i64 d.2.2.1.2.2.2.1, .int .i64 d.2.2.1.2.2.2.2.1, .full 2]⟩, some ⟨false, [.seq .str 0 y6]⟩]) (fun (y5 : List ByteArray) => K (.exit 0) [.tv (.lf (.ptr 1 0))] [some ⟨d.2.1.1, [.seq .str 0 d.2.1.2.1]⟩, some ⟨false, [.int .i64 d.2.2.1.2.1, .int .i64 d.2.2.1.2.2.1, .int .i64 d.2.2.1.2.2.2.1, .int .i64 d.2.2.1.2.2.2.2.1, .full 2]⟩, some ⟨false, [.seq .str 0 y5]⟩]) k d.1.2.2.1 d.2.2.2.1.2.1) F (fun d K => by kernel_rfl)  (fun k d K => Eq.mp (by kernel_rfl) (L26_1_7g F k (f7_1 F) (f14_1 F) (f75_1 F)  (f26_1_l7 F) (G26_1_7 F F) d K))
theorem E26_1g (F : Nat) (c7_1 : Int → Int → Int → Int → (Bool → Option Res) → Option Res) (c14_1 : Int → Int → Int → Int → (Int → Option Res) → Option Res) (c75_1 : ByteArray → (Bool → Option Res) → Option Res) (l7 : List ByteArray → Int → Int → Int → Int → (List ByteArray → Option Res) → (List ByteArray → Option Res) → Nat → Int → List ByteArray → Option Res)  (d : sh26_1.den) (K : KF) : evBody Try.prog (tab [(7, (mkS sh7_1 (fun d K => c7_1 d.1.1.1 d.1.1.2.1 d.1.1.2.2.1 d.1.1.2.2.2.1 (fun (y0 : Bool) => K [.lf (.bool y0)] [])) noS)), (14, (mkS sh14_1 (fun d K => c14_1 d.1.1.1 d.1.1.2.1 d.1.1.2.2.1 d.1.1.2.2.2.1 (fun (y0 : Int) => K [.lf (.int .i64 y0)] [])) noS)), (75, (mkS sh75_1 (fun d K => c75_1 d.1.1 (fun (y0 : Bool) => K [.lf (.bool y0)] [])) noS))]) 45 1 (ltab [(7, mkG sh26_1_l7 [1, 6, 7] (outT [(.exit 0, [6]), (.ret, [4, 5])]) (fun d K => l7 d.2.1.2.1 d.2.2.1.2.1 d.2.2.1.2.2.1 d.2.2.1.2.2.2.1 d.2.2.1.2.2.2.2.1 (fun (y6 : List ByteArray) => K .ret [.tv (.lf (.nilp)), .tv (.lf (.int .i64 4))] [some ⟨d.2.1.1, [.seq .str 0 d.2.1.2.1]⟩, some ⟨false, [.int .i64 d.2.2.1.2.1, .int .i64 d.2.2.1.2.2.1, .int .i64 d.2.2.1.2.2.2.1, .int .i64 d.2.2.1.2.2.2.2.1, .full 2]⟩, some ⟨false, [.seq .str 0 y6]⟩]) (fun (y5 : List ByteArray) => K (.exit 0) [.tv (.lf (.ptr 1 0))] [some ⟨d.2.1.1, [.seq .str 0 d.2.1.2.1]⟩, some ⟨false, [.int .i64 d.2.2.1.2.1, .int .i64 d.2.2.1.2.2.1, .int .i64 d.2.2.1.2.2.2.1, .int .i64 d.2.2.1.2.2.2.2.1, .full 2]⟩, some ⟨false, [.seq .str 0 y5]⟩]) F d.1.2.2.1 d.2.2.2.1.2.1))]) code26 Try.f26.results.toList (encT sh26_1.vs d.1) (encH sh26_1.h d.2) K = (fun (a1 : Int) (a2 : Int) (a3 : Int) (a4 : Int) (a5 : List ByteArray) (K0 : (Int → Option Res)) (K1 : (List ByteArray → Option Res)) => c7_1 a1 a2 a3 a4 (fun x1 => cond (!x1) (K0 12) (c14_1 a1 a2 a3 a4 (fun x2 => cond (((a5.length : Nat) : Int) != x2) (K0 8) (l7 a5 a1 a2 a3 a4 (fun x11 => K0 4) (fun x12 => K1 x12) F 0 [])) )) ) d.1.1.1 d.1.1.2.1 d.1.1.2.2.1 d.1.1.2.2.2.1 d.2.1.2.1 (fun (y0 : Int) => K [.lf (.nilp), .lf (.int .i64 y0)] [some ⟨d.2.1.1, [.seq .str 0 d.2.1.2.1]⟩]) (fun (y6 : List ByteArray) => K [.lf (.ptr 1 0), .lf (.int .i64 0)] [some ⟨d.2.1.1, [.seq .str 0 d.2.1.2.1]⟩, some ⟨false, [.int .i64 d.1.1.1, .int .i64 d.1.1.2.1, .int .i64 d.1.1.2.2.1, .int .i64 d.1.1.2.2.2.1, .full 2]⟩, some ⟨false, [.seq .str 0 y6]⟩]) := by kernel_rfl
theorem E26_1 (F : Nat) (d : sh26_1.den) (K : KF) : evBody Try.prog (T26_1 F) 45 1 (LT26_1 F) code26 Try.f26.results.toList (encT sh26_1.vs d.1) (encH sh26_1.h d.2) K = f26_1 F d.1.1.1 d.1.1.2.1 d.1.1.2.2.1 d.1.1.2.2.2.1 d.2.1.2.1 (fun (y0 : Int) => K [.lf (.nilp), .lf (.int .i64 y0)] [some ⟨d.2.1.1, [.seq .str 0 d.2.1.2.1]⟩]) (fun (y6 : List ByteArray) => K [.lf (.ptr 1 0), .lf (.int .i64 0)] [some ⟨d.2.1.1, [.seq .str 0 d.2.1.2.1]⟩, some ⟨false, [.int .i64 d.1.1.1, .int .i64 d.1.1.2.1, .int .i64 d.1.1.2.2.1, .int .i64 d.1.1.2.2.2.1, .full 2]⟩, some ⟨false, [.seq .str 0 y6]⟩]) := Eq.mp (by kernel_rfl) (E26_1g F (f7_1 F) (f14_1 F) (f75_1 F) (f26_1_l7 F)  d K)
theorem S26_1_ok (F : Nat) (o : Summ) (ho : SoundFn Try.prog 26 o) : SoundFn Try.prog 26 (S26_1 F o) :=
  soundFn_of (fn := Try.f26) (c := code26) (by kernel_rfl) (tab_cons (S7_1_ok F _ (noS_sound enter7)) (tab_cons (S14_1_ok F _ (noS_sound enter14)) (tab_cons (S75_1_ok F _ (noS_sound enter75)) tab_nil))) (by kernel_rfl) (by kernel_rfl) ho (by rw [loops26]; exact (loopsOK_cons (by kernel_rfl) (L26_1_7 F) loopsOK_nil)) (by rw [scopes26]; exact scopesOK_nil) (E26_1 F)
end Go.Proofs.Ytillbabmlfjegaa.X
end

section
/- Trees: the code's and the document's nodes, New and From are one. -/
namespace Go.Proofs.Ytillbabmlfjegaa.X
open Go Go.Proofs.Ytillbabmlfjegaa.Ev
set_option linter.unusedVariables false

def D32 (L : List ByteArray) : Prop := ∀ d ∈ L, d.size = 32

theorem getB_mem {l : List ByteArray} {j : Nat} (h : j < l.length) : l.getD j ByteArray.empty ∈ l := by
  rw [List.getD_eq_getElem?_getD, List.getElem?_eq_getElem h]; simp

theorem atI {l r : List Int} {x : Int} {i : Nat} (hd : l.drop i = x :: r) : i < l.length ∧ l.getD (0 + (i : Int).toNat) 0 = x ∧ l.drop (i + 1) = r := at_drop hd
theorem nilI {l : List Int} {i : Nat} (hd : l.drop i = []) (hi : i ≤ l.length) : i = l.length := by
  have := congrArg List.length hd
  simp at this; omega

def gets (L : List ByteArray) (cs : List Int) : List ByteArray := cs.map fun c => L.getD c.toNat ByteArray.empty
/-- A node's digest, by its children's. -/
def abv (n f c u : Int) (L : List ByteArray) (k : Int) : ByteArray := nodeD (gets L (chs f k (levels n f c u)))

theorem above82 {β : Type} {F : Nat} {n f c u : Int} {L : List ByteArray} {cs : List Int} {K : List ByteArray → Option β} (hL : ∀ x ∈ cs, 0 ≤ x ∧ x < L.length) (hl : cs.length ≤ 100) : ∀ (r : List Int) (i k : Nat) (acc : List ByteArray), cs.drop i = r → i ≤ cs.length → r.length < k → acc.length = i →
    f58_1_l3 F ((cs.length : Nat) : Int) n f c u L cs K k (i : Int) acc = K (acc ++ gets L r)
  | [], i, k, acc, hd, hi, hk, ha => by
    obtain ⟨k, rfl⟩ : ∃ j, k = j + 1 := ⟨k - 1, by omega⟩
    have := nilI hd hi
    simp only [f58_1_l3]
    rw [cf (by omega)]; simp [gets]
  | x :: r, i, k, acc, hd, hi, hk, ha => by
    obtain ⟨k, rfl⟩ : ∃ j, k = j + 1 := ⟨k - 1, by omega⟩
    obtain ⟨d1, d2, d3⟩ := atI hd
    have hx := hL x (by
      have : x ∈ cs.drop i := by rw [hd]; simp
      exact List.mem_of_mem_drop this)
    simp only [f58_1_l3]
    rw [ct (by omega), ct (by omega), ct (by omega), d2, ct (by omega), ct (by omega), ct (by omega), w64 (by omega) (by omega), show ((i : Int) + 1) = ((i + 1 : Nat) : Int) by omega,
      above82 hL hl r (i + 1) k _ d3 (by omega) (by simpa using hk) (by simp; omega)]
    simp [gets]

theorem above92 {β : Type} {F : Nat} {L : List ByteArray} {cs : List Int} {K : List ByteArray → Option β} (hL : ∀ x ∈ cs, 0 ≤ x ∧ x < L.length) (hl : cs.length ≤ 100) : ∀ (r : List Int) (i k : Nat) (acc : List ByteArray), cs.drop i = r → i ≤ cs.length → r.length < k → acc.length = i →
    f61_1_l4 F L cs K k (i : Int) acc = K (acc ++ gets L r)
  | [], i, k, acc, hd, hi, hk, ha => by
    obtain ⟨k, rfl⟩ : ∃ j, k = j + 1 := ⟨k - 1, by omega⟩
    have := nilI hd hi
    simp only [f61_1_l4]
    rw [cf (by omega)]; simp [gets]
  | x :: r, i, k, acc, hd, hi, hk, ha => by
    obtain ⟨k, rfl⟩ : ∃ j, k = j + 1 := ⟨k - 1, by omega⟩
    obtain ⟨d1, d2, d3⟩ := atI hd
    have hx := hL x (by
      have : x ∈ cs.drop i := by rw [hd]; simp
      exact List.mem_of_mem_drop this)
    simp only [f61_1_l4]
    rw [ct (by omega), ct (by omega), ct (by omega), d2, ct (by omega), ct (by omega), ct (by omega), w64 (by omega) (by omega), show ((i : Int) + 1) = ((i + 1 : Nat) : Int) by omega,
      above92 hL hl r (i + 1) k _ d3 (by omega) (by simpa using hk) (by simp; omega)]
    simp [gets]

theorem chs_lt {n f c u k : Int} (h : rt n f c u) (hk : 0 ≤ k) : ∀ x ∈ chs f k (levels n f c u), 0 ≤ x ∧ x < k := by
  intro x hx
  have h1 := (chs_mem h hk).1 hx
  have h2 := prn_bd (x := x) h
  omega

theorem gets_size {L : List ByteArray} {cs : List Int} (hd : D32 L) (hL : ∀ x ∈ cs, 0 ≤ x ∧ x < L.length) : ∀ y ∈ gets L cs, y.size ≤ 100 := by
  intro y hy
  obtain ⟨x, hx, rfl⟩ := List.mem_map.1 hy
  have := hL x hx
  rw [hd _ (getB_mem (by omega))]; omega

theorem aboveP {β : Type} {n f c u k : Int} {L : List ByteArray} {K : ByteArray → Option β} (h : rt n f c u) (hk : 0 ≤ k) (hkl : k ≤ L.length) (hd : D32 L) : f58_1 20000 k n f c u L K = K (abv n f c u L k) := by
  have hl := chs_len f k (levels n f c u)
  have hf := h.2.1
  have hc : ∀ x ∈ chs f k (levels n f c u), 0 ≤ x ∧ x < L.length := fun x hx => by have := chs_lt h hk x hx; omega
  have hn : (gets L (chs f k (levels n f c u))).length ≤ 900 := by simp [gets]; omega
  simp only [f58_1, chs58]
  have := above82 (F := 20000) (n := n) (f := f) (c := c) (u := u) (K := fun x11 => f69_1 20000 x11 fun x12 => K x12) hc (by omega) _ 0 20000 [] rfl (by omega) (by simp; omega) rfl
  rw [show ((0 : Nat) : Int) = 0 from rfl] at this
  rw [this, List.nil_append, List.drop_zero, nodeP (by omega) hn (gets_size hd hc)]
  rfl

theorem aboveR {β : Type} {n f c u k : Int} {L : List ByteArray} {K : ByteArray → Option β} (h : rt n f c u) (hk : 0 ≤ k) (hkl : k ≤ L.length) (hd : D32 L) : f61_1 20000 n f c u k L K = K (abv n f c u L k) := by
  have hl := chs_len f k (levels n f c u)
  have hf := h.2.1
  have hc : ∀ x ∈ chs f k (levels n f c u), 0 ≤ x ∧ x < L.length := fun x hx => by have := chs_lt h hk x hx; omega
  have hn : (gets L (chs f k (levels n f c u))).length ≤ 900 := by simp [gets]; omega
  simp only [f61_1, chs59]
  have := above92 (F := 20000) (L := L) (K := fun x11 => f77_1 20000 x11 fun x12 => K x12) hc (by omega) _ 0 20000 [] rfl (by omega) (by simp; omega) rfl
  rw [show ((0 : Nat) : Int) = 0 from rfl] at this
  rw [this, List.nil_append, List.drop_zero, nodeR (by omega) hn (gets_size hd hc)]
  rfl

/-- Nodes above the leaves, one after another. -/
def bld (n f c u : Int) : Nat → List ByteArray → List ByteArray
  | 0, L => L
  | m + 1, L => bld n f c u m (L ++ [abv n f c u L (L.length : Int)])

theorem D32_app {L : List ByteArray} {x : ByteArray} (h : D32 L) (hx : x.size = 32) : D32 (L ++ [x]) := by
  intro y hy
  rcases List.mem_append.1 hy with hy | hy
  · exact h y hy
  · simp at hy; rw [hy]; exact hx

theorem bld_ok (n f c u : Int) : ∀ (m : Nat) (L : List ByteArray), D32 L → D32 (bld n f c u m L) ∧ (bld n f c u m L).length = L.length + m
  | 0, L, h => ⟨h, rfl⟩
  | m + 1, L, h => by
    obtain ⟨q1, q2⟩ := bld_ok n f c u m (L ++ [abv n f c u L (L.length : Int)]) (D32_app h (dig_size _))
    exact ⟨q1, by rw [bld, q2]; simp; omega⟩

theorem newNodes {β : Type} {n f c u : Int} {l : List ByteArray} {K : List ByteArray → Option β} (h : rt n f c u) : ∀ (m k : Nat) (L : List ByteArray), (L.length : Int) + m = nodes n f c u → m < k → D32 L →
    f10_1_l14 20000 l n f c u n f c u K k (L.length : Int) L = K (bld n f c u m L)
  | 0, k, L, hm, hk, hd => by
    obtain ⟨k, rfl⟩ : ∃ j, k = j + 1 := ⟨k - 1, by omega⟩
    simp only [f10_1_l14, root54, root, if_pos h]
    rw [cf (by omega)]; rfl
  | m + 1, k, L, hm, hk, hd => by
    obtain ⟨k, rfl⟩ : ∃ j, k = j + 1 := ⟨k - 1, by omega⟩
    have hn := nodes_ok n f c u
    simp only [f10_1_l14, root54, root, if_pos h]
    rw [ct (by omega), aboveP h (by omega) (by omega) hd, ct (by omega), w64 (by omega) (by omega), show ((L.length : Int) + 1) = ((L ++ [abv n f c u L (L.length : Int)]).length : Int) by simp]
    exact newNodes h m k _ (by simp; omega) (by omega) (D32_app hd (dig_size _))

theorem newNodesR {β : Type} {n f c u : Int} {l : List ByteArray} {K : List ByteArray → Option β} (h : rt n f c u) : ∀ (m k : Nat) (L : List ByteArray), (L.length : Int) + m = nodes n f c u → m < k → D32 L →
    f11_1_l14 20000 (nodes n f c u) l n f c u n f c u K k (L.length : Int) L = K (bld n f c u m L)
  | 0, k, L, hm, hk, hd => by
    obtain ⟨k, rfl⟩ : ∃ j, k = j + 1 := ⟨k - 1, by omega⟩
    simp only [f11_1_l14]
    rw [cf (by omega)]; rfl
  | m + 1, k, L, hm, hk, hd => by
    obtain ⟨k, rfl⟩ : ∃ j, k = j + 1 := ⟨k - 1, by omega⟩
    have hn := nodes_ok n f c u
    simp only [f11_1_l14]
    rw [ct (by omega), aboveR h (by omega) (by omega) hd, ct (by omega), w64 (by omega) (by omega), show ((L.length : Int) + 1) = ((L ++ [abv n f c u L (L.length : Int)]).length : Int) by simp]
    exact newNodesR h m k _ (by simp; omega) (by omega) (D32_app hd (dig_size _))

def bad64 (s : ByteArray) : Bool := !((s.size : Int) == 64)
def bad32 (s : ByteArray) : Bool := !((s.size : Int) == 32)

theorem any64 {β : Type} {F : Nat} {l : List ByteArray} {K0 : Int → Option β} {K1 : Option β} {K : Bool → Option β} (hl : l.length ≤ 10000) (h0 : ∀ i : Nat, K0 (i : Int) = K true) (h1 : K1 = K false) : ∀ (r : List ByteArray) (i k : Nat), l.drop i = r → i ≤ l.length → r.length < k →
    f96_5672_l2 F ((l.length : Nat) : Int) l K0 K1 k (i : Int) = K (r.any bad64)
  | [], i, k, hd, hi, hk => by
    obtain ⟨k, rfl⟩ : ∃ j, k = j + 1 := ⟨k - 1, by omega⟩
    have := nilB hd hi
    simp only [f96_5672_l2]
    rw [cf (by omega), h1]; rfl
  | x :: r, i, k, hd, hi, hk => by
    obtain ⟨k, rfl⟩ : ∃ j, k = j + 1 := ⟨k - 1, by omega⟩
    obtain ⟨d1, d2, d3⟩ := atB hd
    simp only [f96_5672_l2, f54_1, f55_1]
    rw [ct (by omega), ct (by omega), ct (by omega), d2, w64 (by omega) (by omega), show ((i : Int) + 1) = ((i + 1 : Nat) : Int) by omega, any64 hl h0 h1 r (i + 1) k d3 (by omega) (by simpa using hk), h0]
    simp only [List.any_cons, bad64]
    cases (x.size : Int) == 64 <;> rfl

theorem any32 {β : Type} {F : Nat} {l : List ByteArray} {K0 : Int → Option β} {K1 : Option β} {K : Bool → Option β} (hl : l.length ≤ 10000) (h0 : ∀ i : Nat, K0 (i : Int) = K true) (h1 : K1 = K false) : ∀ (r : List ByteArray) (i k : Nat), l.drop i = r → i ≤ l.length → r.length < k →
    f96_5041_l2 F ((l.length : Nat) : Int) l K0 K1 k (i : Int) = K (r.any bad32)
  | [], i, k, hd, hi, hk => by
    obtain ⟨k, rfl⟩ : ∃ j, k = j + 1 := ⟨k - 1, by omega⟩
    have := nilB hd hi
    simp only [f96_5041_l2]
    rw [cf (by omega), h1]; rfl
  | x :: r, i, k, hd, hi, hk => by
    obtain ⟨k, rfl⟩ : ∃ j, k = j + 1 := ⟨k - 1, by omega⟩
    obtain ⟨d1, d2, d3⟩ := atB hd
    simp only [f96_5041_l2, f73_1, f62_1]
    rw [ct (by omega), ct (by omega), ct (by omega), d2, w64 (by omega) (by omega), show ((i : Int) + 1) = ((i + 1 : Nat) : Int) by omega, any32 hl h0 h1 r (i + 1) k d3 (by omega) (by simpa using hk), h0]
    simp only [List.any_cons, bad32]
    cases (x.size : Int) == 32 <;> rfl

theorem contains64 {β : Type} {F : Nat} {l : List ByteArray} {K : Bool → Option β} (hl : l.length ≤ 10000) (hF : 10000 < F) : f53_5672 F l K = K (l.any bad64) := by
  simp only [f53_5672, f96_5672]
  exact any64 (F := F) (K0 := fun x5 => K (decide (x5 ≥ 0))) (K1 := K (decide ((-1 : Int) ≥ 0))) (K := K) hl (fun i => by simp) rfl l 0 F rfl (by omega) (by omega)

theorem contains32 {β : Type} {F : Nat} {l : List ByteArray} {K : Bool → Option β} (hl : l.length ≤ 10000) (hF : 10000 < F) : f53_5041 F l K = K (l.any bad32) := by
  simp only [f53_5041, f96_5041]
  exact any32 (F := F) (K0 := fun x5 => K (decide (x5 ≥ 0))) (K1 := K (decide ((-1 : Int) ≥ 0))) (K := K) hl (fun i => by simp) rfl l 0 F rfl (by omega) (by omega)

theorem leavesP {β : Type} {F : Nat} {n f c u : Int} {l : List ByteArray} {K : List ByteArray → Option β} (hF : 2000 ≤ F) (hl : l.length ≤ 10000) (h64 : ∀ x ∈ l, x.size = 64) : ∀ (r : List ByteArray) (i k : Nat) (acc : List ByteArray), l.drop i = r → i ≤ l.length → r.length < k → acc.length = i →
    f10_1_l9 F ((l.length : Nat) : Int) l n f c u n f c u K k (i : Int) acc = K (acc ++ r.map leafD)
  | [], i, k, acc, hd, hi, hk, ha => by
    obtain ⟨k, rfl⟩ : ∃ j, k = j + 1 := ⟨k - 1, by omega⟩
    have := nilB hd hi
    simp only [f10_1_l9]
    rw [cf (by omega)]; simp
  | x :: r, i, k, acc, hd, hi, hk, ha => by
    obtain ⟨k, rfl⟩ : ∃ j, k = j + 1 := ⟨k - 1, by omega⟩
    obtain ⟨d1, d2, d3⟩ := atB hd
    have hx := h64 x (by
      have : x ∈ l.drop i := by rw [hd]; simp
      exact List.mem_of_mem_drop this)
    simp only [f10_1_l9]
    rw [ct (by omega), ct (by omega), ct (by omega), d2, leafP hF (by omega), ct (by omega), w64 (by omega) (by omega), show ((i : Int) + 1) = ((i + 1 : Nat) : Int) by omega,
      leavesP hF hl h64 r (i + 1) k _ d3 (by omega) (by simpa using hk) (by simp; omega)]
    simp

theorem leavesR {β : Type} {F : Nat} {n f c u : Int} {l : List ByteArray} {K0 K1 : List ByteArray → Option β} {z : Option β} (h0 : ∀ x, K0 x = z) (hF : 2000 ≤ F) (hl : l.length ≤ 10000) : ∀ (r : List ByteArray) (i k : Nat) (acc : List ByteArray), l.drop i = r → i ≤ l.length → r.length < k → acc.length = i →
    f11_1_l7 F l n f c u n f c u K0 K1 k (i : Int) acc = cond (r.any bad64) z (K1 (acc ++ r.map leafD))
  | [], i, k, acc, hd, hi, hk, ha => by
    obtain ⟨k, rfl⟩ : ∃ j, k = j + 1 := ⟨k - 1, by omega⟩
    have := nilB hd hi
    simp only [f11_1_l7]
    rw [cf (by omega)]; simp
  | x :: r, i, k, acc, hd, hi, hk, ha => by
    obtain ⟨k, rfl⟩ : ∃ j, k = j + 1 := ⟨k - 1, by omega⟩
    obtain ⟨d1, d2, d3⟩ := atB hd
    simp only [f11_1_l7, f59_1]
    rw [ct (by omega), ct (by omega), ct (by omega), d2]
    by_cases hx : x.size = 64
    · have e : ((x.size : Int) == 64) = true := by simp; omega
      simp only [e, Bool.not_true, cond_false, List.any_cons, bad64, Bool.false_or]
      rw [ct (by omega), ct (by omega), leafR hF (by omega), ct (by omega), w64 (by omega) (by omega), show ((i : Int) + 1) = ((i + 1 : Nat) : Int) by omega,
        leavesR h0 hF hl r (i + 1) k _ d3 (by omega) (by simpa using hk) (by simp; omega)]
      simp [bad64]
    · have e : ((x.size : Int) == 64) = false := by simp; omega
      simp only [e, Bool.not_false, cond_true, List.any_cons, bad64, Bool.true_or, h0]

/-- A tree of sectors, or why there is none. -/
def newT (n f c u : Int) (l : List ByteArray) : Sum Int (List ByteArray) :=
  if rt n f c u then
    if (l.length : Int) = n then
      if l.any bad64 then .inl 4 else .inr (bld n f c u (nodes n f c u - n).toNat (l.map leafD))
    else .inl 8
  else .inl 12

def fromT (n f c u : Int) (l : List ByteArray) : Sum Int (List ByteArray) :=
  if rt n f c u then
    if (l.length : Int) = nodes n f c u then
      if l.any bad32 then .inl 4 else .inr l
    else .inl 8
  else .inl 12

def sel {β : Type} (K0 : Int → Option β) (K1 : List ByteArray → Option β) : Sum Int (List ByteArray) → Option β
  | .inl e => K0 e
  | .inr L => K1 L

theorem ok64 {l : List ByteArray} (h : l.any bad64 = false) : ∀ x ∈ l, x.size = 64 := by
  intro x hx
  have := List.any_eq_false.1 h x hx
  simp [bad64] at this
  omega

theorem D32_leaves (l : List ByteArray) : D32 (l.map leafD) := by
  intro y hy
  obtain ⟨x, hx, rfl⟩ := List.mem_map.1 hy
  exact dig_size _

theorem bne_f {a b : Int} (h : a = b) : (a != b) = false := by simp [h]
theorem bne_t {a b : Int} (h : a ≠ b) : (a != b) = true := by simp [h]

theorem newP {β : Type} {n f c u : Int} {l : List ByteArray} {K0 : Int → Option β} {K1 : List ByteArray → Option β} : f10_1 20000 n f c u l K0 K1 = sel K0 K1 (newT n f c u l) := by
  simp only [f10_1, right46, newT]
  by_cases h : rt n f c u
  · simp only [h, decide_true, Bool.not_true, cond_false, if_true]
    have h1 := h.1
    by_cases hl : (l.length : Int) = n
    · rw [bne_f hl, if_pos hl, cond_false, contains64 (by omega) (by omega)]
      cases ha : l.any bad64 with
      | true => rfl
      | false =>
        have hn := nodes_ok n f c u
        have hn2 := n_le h
        simp only [cond_false, Bool.false_eq_true, if_false, sel]
        have := leavesP (F := 20000) (n := n) (f := f) (c := c) (u := u) (K := fun x16 => f10_1_l14 20000 l n f c u n f c u (fun x30 => K1 x30) 20000 n x16) (by omega) (by omega) (ok64 ha) l 0 20000 [] rfl (by omega) (by omega) rfl
        rw [show ((0 : Nat) : Int) = 0 from rfl] at this
        rw [this, List.nil_append]
        have h2 := newNodes (l := l) (K := fun x30 => K1 x30) h (nodes n f c u - n).toNat 20000 (l.map leafD) (by simp; omega) (by omega) (D32_leaves l)
        rw [show (((l.map leafD).length : Nat) : Int) = n by simp; omega] at h2
        exact h2
    · rw [bne_t hl, if_neg hl]; rfl
  · simp only [h, decide_false, Bool.not_false, cond_true, if_false, sel]

theorem cond_ff {α : Sort _} {a b : α} : cond (!true) a b = b := rfl
theorem cond_tt {α : Sort _} {a b : α} : cond (!false) a b = a := rfl
theorem cond_t {α : Sort _} {a b : α} : cond true a b = a := rfl

theorem newR {β : Type} {n f c u : Int} {l : List ByteArray} {K0 : Int → Option β} {K1 : List ByteArray → Option β} : f11_1 20000 n f c u l K0 K1 = sel K0 K1 (newT n f c u l) := by
  rw [f11_1, right47, newT]
  by_cases h : rt n f c u
  · rw [decide_eq_true h, if_pos h, cond_ff]
    have h1 := h.1
    by_cases hl : (l.length : Int) = n
    · have hn := nodes_ok n f c u
      have hn2 := n_le h
      rw [bne_f hl, if_pos hl, cond_false]
      have := leavesR (F := 20000) (n := n) (f := f) (c := c) (u := u) (K0 := fun x15 => K0 4) (z := K0 4) (K1 := fun x16 => f14_1 20000 n f c u (fun x17 => f11_1_l14 20000 x17 l n f c u n f c u (fun x31 => K1 x31) 20000 n x16)) (fun _ => rfl) (by omega) (by omega) l 0 20000 [] rfl (by omega) (by omega) rfl
      rw [show ((0 : Nat) : Int) = 0 from rfl] at this
      rw [this, List.nil_append]
      cases ha : l.any bad64 with
      | true => rw [cond_t, if_pos rfl, sel]
      | false =>
        rw [cond_false, nodes51]
        have h2 := newNodesR (l := l) (K := fun x30 => K1 x30) h (nodes n f c u - n).toNat 20000 (l.map leafD) (by simp; omega) (by omega) (D32_leaves l)
        rw [show (((l.map leafD).length : Nat) : Int) = n by simp; omega] at h2
        rw [h2, if_neg (by simp), sel]
    · rw [bne_t hl, if_neg hl, cond_t, sel]
  · rw [decide_eq_false h, if_neg h, cond_tt, sel]

theorem cloneP {β : Type} {F : Nat} {l : List ByteArray} {K : List ByteArray → Option β} (hl : l.length ≤ 100000) : f74_1 F l K = K l := by
  simp only [f74_1, List.nil_append]
  by_cases h : 0 < l.length
  · rw [ct h, ct (by omega)]
  · have : l = [] := List.length_eq_zero_iff.1 (by omega)
    subst this
    rw [cf h, ct (by simp), amb_self]

theorem fromL {β : Type} {F : Nat} {n f c u : Int} {l : List ByteArray} {K0 K1 : List ByteArray → Option β} {z : Option β} (h0 : ∀ x, K0 x = z) (hl : l.length ≤ 20000) : ∀ (r : List ByteArray) (i k : Nat) (acc : List ByteArray), l.drop i = r → i ≤ l.length → r.length < k → acc.length = i →
    f26_1_l7 F l n f c u K0 K1 k (i : Int) acc = cond (r.any bad32) z (K1 (acc ++ r))
  | [], i, k, acc, hd, hi, hk, ha => by
    obtain ⟨k, rfl⟩ : ∃ j, k = j + 1 := ⟨k - 1, by omega⟩
    have := nilB hd hi
    simp only [f26_1_l7]
    rw [cf (by omega)]; simp
  | x :: r, i, k, acc, hd, hi, hk, ha => by
    obtain ⟨k, rfl⟩ : ∃ j, k = j + 1 := ⟨k - 1, by omega⟩
    obtain ⟨d1, d2, d3⟩ := atB hd
    simp only [f26_1_l7, f75_1]
    rw [ct (by omega), ct (by omega), ct (by omega), d2]
    by_cases hx : x.size = 32
    · have e : ((x.size : Int) == 32) = true := by simp; omega
      simp only [e, Bool.not_true, cond_false, List.any_cons, bad32, Bool.false_or]
      rw [ct (by omega), ct (by omega), ct (by omega), w64 (by omega) (by omega), show ((i : Int) + 1) = ((i + 1 : Nat) : Int) by omega,
        fromL h0 hl r (i + 1) k _ d3 (by omega) (by simpa using hk) (by simp; omega)]
      simp [bad32]
    · have e : ((x.size : Int) == 32) = false := by simp; omega
      simp only [e, Bool.not_false, cond_true, List.any_cons, bad32, Bool.true_or, h0]

theorem fromP {β : Type} {n f c u : Int} {l : List ByteArray} {K0 : Int → Option β} {K1 : List ByteArray → Option β} : f25_1 20000 n f c u l K0 K1 = sel K0 K1 (fromT n f c u l) := by
  simp only [f25_1, right46, nodes50, fromT]
  by_cases h : rt n f c u
  · have hn := nodes_up h
    simp only [h, decide_true, Bool.not_true, cond_false, if_true]
    by_cases hl : (l.length : Int) = nodes n f c u
    · rw [bne_f hl, if_pos hl, cond_false, contains32 (by omega) (by omega), cloneP (by omega)]
      cases ha : l.any bad32 <;> rfl
    · rw [bne_t hl, if_neg hl]; rfl
  · simp only [h, decide_false, Bool.not_false, cond_true, if_false, sel]

theorem fromR {β : Type} {n f c u : Int} {l : List ByteArray} {K0 : Int → Option β} {K1 : List ByteArray → Option β} : f26_1 20000 n f c u l K0 K1 = sel K0 K1 (fromT n f c u l) := by
  simp only [f26_1, right47, nodes51, fromT]
  by_cases h : rt n f c u
  · have hn := nodes_up h
    simp only [h, decide_true, Bool.not_true, cond_false, if_true]
    by_cases hl : (l.length : Int) = nodes n f c u
    · rw [bne_f hl, if_pos hl, cond_false]
      have := fromL (F := 20000) (n := n) (f := f) (c := c) (u := u) (K0 := fun _ => K0 4) (z := K0 4) (K1 := fun x12 => K1 x12) (fun _ => rfl) (by omega) l 0 20000 [] rfl (by omega) (by omega) rfl
      rw [show ((0 : Nat) : Int) = 0 from rfl] at this
      rw [this, List.nil_append]
      cases ha : l.any bad32 <;> rfl
    · rw [bne_t hl, if_neg hl]; rfl
  · simp only [h, decide_false, Bool.not_false, cond_true, if_false, sel]

theorem newT_ok {n f c u : Int} {l L : List ByteArray} (h : newT n f c u l = .inr L) : rt n f c u ∧ D32 L ∧ (L.length : Int) = nodes n f c u := by
  unfold newT at h
  split at h
  · rename_i hr
    split at h
    · rename_i hl
      split at h
      · cases h
      · have hn := n_le hr
        simp only [Sum.inr.injEq] at h
        subst h
        obtain ⟨q1, q2⟩ := bld_ok n f c u (nodes n f c u - n).toNat (l.map leafD) (D32_leaves l)
        exact ⟨hr, q1, by rw [q2]; simp; omega⟩
    · cases h
  · cases h

theorem ok32 {l : List ByteArray} (h : ¬ l.any bad32 = true) : D32 l := by
  intro x hx
  have := List.any_eq_false.1 (by simpa using h) x hx
  simp [bad32] at this
  omega

theorem fromT_ok {n f c u : Int} {l L : List ByteArray} (h : fromT n f c u l = .inr L) : rt n f c u ∧ D32 L ∧ (L.length : Int) = nodes n f c u := by
  unfold fromT at h
  split at h
  · rename_i hr
    split at h
    · rename_i hl
      split at h
      · cases h
      · rename_i hb
        simp only [Sum.inr.injEq] at h
        subst h
        exact ⟨hr, ok32 hb, hl⟩
    · cases h
  · cases h

end Go.Proofs.Ytillbabmlfjegaa.X
end

section
/- Trees: roots; sectors of one byte. -/
namespace Go.Proofs.Ytillbabmlfjegaa.X
open Go Go.Proofs.Ytillbabmlfjegaa.Ev
set_option linter.unusedVariables false

theorem rootP {β : Type} {F : Nat} {n f c u : Int} {L : List ByteArray} {K : ByteArray → Option β} (h0 : 0 < L.length) (h1 : L.length ≤ 1000) : f51_1 F n f c u L K = K (L.getD (L.length - 1) ByteArray.empty) := by
  rw [f51_1, w64 (by omega) (by omega), ct (by omega), ct (by omega), show 0 + ((L.length : Int) - 1).toNat = L.length - 1 by omega]
theorem rootR {β : Type} {F : Nat} {n f c u : Int} {L : List ByteArray} {K : ByteArray → Option β} (h0 : 0 < L.length) (h1 : L.length ≤ 1000) : f13_1 F n f c u L K = K (L.getD (L.length - 1) ByteArray.empty) := by
  rw [f13_1, w64 (by omega) (by omega), ct (by omega), ct (by omega), show 0 + ((L.length : Int) - 1).toNat = L.length - 1 by omega]

def fill (v : Int) : ByteArray := ofInts (List.replicate 64 v)

theorem fillL {β : Type} {F : Nat} {v : Int} {K : List Int → Option β} : ∀ (m i k : Nat), i + m = 64 → m < k → f50_1_l3 F v K k (i : Int) (List.replicate i v) = K (List.replicate 64 v)
  | 0, i, k, hi, hk => by
    obtain ⟨k, rfl⟩ : ∃ j, k = j + 1 := ⟨k - 1, by omega⟩
    rw [f50_1_l3, cf (by omega), show i = 64 by omega]
  | m + 1, i, k, hi, hk => by
    obtain ⟨k, rfl⟩ : ∃ j, k = j + 1 := ⟨k - 1, by omega⟩
    rw [f50_1_l3, ct (by omega), ct (by simp; omega), w64 (by omega) (by omega), show ((i : Int) + 1) = ((i + 1 : Nat) : Int) by omega, ← List.replicate_succ']
    exact fillL m (i + 1) k (by omega) (by omega)

theorem fill76 {β : Type} {F : Nat} {v : Int} {K : ByteArray → Option β} (hF : 1000 ≤ F) : f50_1 F v K = K (fill v) := by
  rw [f50_1]
  exact fillL (K := fun x => K (ofInts x)) 64 0 F (by omega) (by omega)

theorem fill_size (v : Int) : (fill v).size = 64 := by simp [fill, ofInts_size]

theorem zero75 {β : Type} {F : Nat} {K : ByteArray → Option β} (hF : 1000 ≤ F) : f49_1 F K = K (fill 0) := by
  rw [f49_1, fill76 hF]

end Go.Proofs.Ytillbabmlfjegaa.X
end

section
/- The law: a walk that is not there waits for nothing. -/
namespace Go.Proofs.Ytillbabmlfjegaa.X
open Go Go.Proofs.Ytillbabmlfjegaa.Ev
set_option linter.unusedVariables false

theorem levels12 : levels 1 2 0 1 = [1] := by kernel_rfl
theorem nodes12 : nodes 1 2 0 1 = 1 := by rw [nodes, levels12]; rfl
theorem rt12 : rt 1 2 0 1 := by unfold rt; omega

theorem new12 (v : Int) : newT 1 2 0 1 [fill v] = .inr [leafD (fill v)] := by
  have h1 : [fill v].any bad64 = false := by simp [bad64, fill_size]
  unfold newT
  rw [if_pos rt12, if_pos (by rfl), nodes12, h1]
  rfl

/-- Two sectors' digests are not one: reckoned. -/
theorem unlike : ((leafD (fill 0)).toList == (leafD (fill 1)).toList) = false := by decide +kernel

theorem walkNew {β : Type} {d : ByteArray} {L : List ByteArray} {K0 : Option β} {K1 : List ByteArray → List (Int × ByteArray) → List (Int × ByteArray) → Option β} (hd : d.size = 32) {x : ByteArray} (hL : L = [x]) :
    f12_1 20000 d 1 2 0 1 L K0 K1 = cond (x.toList == d.toList) (K1 L [] []) (K1 L [] [(0, d)]) := by
  subst hL
  have e : ((d.size : Int) == 32) = true := by simp; omega
  have hr : root 1 2 0 1 = 0 := by rw [root, if_pos rt12, nodes12]; rfl
  rw [f12_1, f62_1, e, cond_ff, f63_1, f64_1, cloneP (by simp), root54, hr, f65_1, f99_1, cf (by omega), cf (by simp), ct (by simp), ct (by simp)]
  rw [show ((0 : Int) != 0) = false from rfl, cond_false]
  rw [show ([x].getD (0 + (0 : Int).toNat) ByteArray.empty) = x from rfl]
  cases h : (x.toList == d.toList) with
  | true => rfl
  | false =>
    rw [cond_false, cond_false, ct (by omega), f100_9627, ct (by simp)]
    rfl

theorem knownW {β : Type} {K : Bool → Option β} : f8_1 20000 K = K true := by
  have hs1 := fill_size 1
  have ho : (leafD (fill 1)).size = 32 := dig_size _
  have hz : (leafD (fill 0)).size = 32 := dig_size _
  rw [f8_1, zero75 (by omega), newP, new12, sel, fill76 (by omega), newR, new12, sel, rootR (by simp) (by simp)]
  rw [show ([leafD (fill 1)].getD ([leafD (fill 1)].length - 1) ByteArray.empty) = leafD (fill 1) from rfl]
  rw [walkNew ho rfl, unlike, cond_false, rootP (by simp) (by simp)]
  rw [show ([leafD (fill 0)].getD ([leafD (fill 0)].length - 1) ByteArray.empty) = leafD (fill 0) from rfl]
  rw [walkNew hz rfl, beq_self_eq_true, cond_t]
  rw [f16_1, cf (by simp), ct (by simp), ct (by simp), ct (by simp), fill76 (by omega), f20_1, f67_1, f16_1, cf (by simp), ct (by simp), ct (by simp), ct (by simp)]
  rw [show ((2 : Int) == 2) = true from rfl, cond_t]
  rw [show ((([(0, leafD (fill 1))] : List (Int × ByteArray)).getD 0 (0, ByteArray.empty)).1 == (0 : Int)) = true from rfl, f55_1]
  rw [show (((fill 1).size : Int) == 64) = true by simp [hs1], cond_ff, cond_ff, ct (by simp), ct (by simp), leafP (by omega) (by omega)]
  rw [show ((([(0, leafD (fill 1))] : List (Int × ByteArray)).getD 0 (0, ByteArray.empty)).2) = leafD (fill 1) from rfl, beq_self_eq_true, cond_ff, f70_2686, ct (by simp)]
  rw [f15_1, f67_1, f16_1, cf (by simp), cf (by simp)]
  rfl

theorem law_true {β : Type} (k : Int) (t : ByteArray) {q1 q2 : Prop} (_ : q1) (_ : q2) (r : β) : ∃ F, f4_1 F k t (fun b => cond b (some r) none) = some r := by
  refine ⟨20000, ?_⟩
  rw [f4_1, f16_568, f22_568, f12_115, f19_312, f20_1385, f15_568, f67_8586, f16_568,
    show ((0 : Int) == 0) = true from rfl, cond_t, cond_t, knownW, cond_t]

end Go.Proofs.Ytillbabmlfjegaa.X
end
