/- Marks, seals and merges of a dirty map: what the code reckons is what the document's answer reckons. -/
import Derived.Test.YtlokielmpdjedaaEvF5
import Derived.Test.YtlokielmpdjedaaPureW
import Derived.Test.YtlokielmpdjedaaEvS18
namespace Go.Proofs.Ytlokielmpdjedaa.X
open Go Go.Proofs.Ytlokielmpdjedaa.Ev
set_option linter.unusedVariables false

def hasB (A B i : Nat) : Bool := if i < 64 then A.testBit i else B.testBit (i - 64)

theorem idx64 {i : Nat} (hi : i < 128) : IntKind.i64.wrap ((i : Int).tdiv 64) = ((i / 64 : Nat) : Int) := by
  have := tdiv_nn (a := i) (b := 64)
  rw [show ((64 : Nat) : Int) = 64 from rfl] at this
  rw [this, w64 (by omega) (by omega)]
theorem md64 {i : Nat} : (i : Int).tmod 64 = ((i % 64 : Nat) : Int) := tmod_nn (a := i) (b := 64)

theorem has100 {β : Type} {F A B i : Nat} {K : Bool → Option β} (hA : A < 2 ^ 64) (hB : B < 2 ^ 64) (hi : i < 128) : f100_1 F [(A : Int), (B : Int)] (i : Int) K = K (hasB A B i) := by
  simp only [f100_1, idx64 hi, md64]
  rw [cf (by omega), cf (by omega), wu64 (by omega) (by omega), ct (by omega), ct (by simp; omega), cf (by omega), hasB]
  by_cases h : i < 64
  · have h1 : i / 64 = 0 := by omega
    have h2 : i % 64 = i := by omega
    simp only [h1, h2, h, if_true]
    have : ([(A : Int), (B : Int)].getD ((0 : Nat) : Int).toNat 0) = (A : Int) := rfl
    rw [this, shr64 h, show (1 : Int) = ((1 : Nat) : Int) from rfl, and64 (Nat.lt_of_le_of_lt (Nat.shiftRight_le _ _) hA) (by omega)]
    rw [← bit_test, natbeq]
  · have h1 : i / 64 = 1 := by omega
    have h2 : i % 64 = i - 64 := by omega
    simp only [h1, h2, h, if_false]
    have : ([(A : Int), (B : Int)].getD ((1 : Nat) : Int).toNat 0) = (B : Int) := rfl
    rw [this, shr64 (by omega), show (1 : Int) = ((1 : Nat) : Int) from rfl, and64 (Nat.lt_of_le_of_lt (Nat.shiftRight_le _ _) hB) (by omega)]
    rw [← bit_test, natbeq]

def tl (A B n : Nat) : List Bool := (List.range n).map (hasB A B)

theorem told98l {β : Type} {F A B : Nat} {K : List Bool → Option β} (hA : A < 2 ^ 64) (hB : B < 2 ^ 64) : ∀ (m i k : Nat), i + m = 128 → m < k →
    f98_1_l3 F [(A : Int), (B : Int)] K k (i : Int) (tl A B i) = K (tl A B 128)
  | 0, i, k, hi, hk => by
    obtain ⟨k, rfl⟩ : ∃ j, k = j + 1 := ⟨k - 1, by omega⟩
    obtain rfl : i = 128 := by omega
    simp only [f98_1_l3]
    rw [cf (by omega)]
  | m + 1, i, k, hi, hk => by
    obtain ⟨k, rfl⟩ : ∃ j, k = j + 1 := ⟨k - 1, by omega⟩
    simp only [f98_1_l3, has100 hA hB (show i < 128 by omega)]
    rw [ct (by omega), ct (by simp [tl]; omega), w64 (by omega) (by omega)]
    have := told98l (F := F) (K := K) hA hB m (i + 1) k (by omega) (by omega)
    rw [show ((i : Int) + 1) = ((i + 1 : Nat) : Int) by omega]
    rw [← this]
    congr 1
    simp [tl, List.range_succ]

theorem told98 {β : Type} {F A B : Nat} {K : List Bool → Option β} (hF : 200 ≤ F) (hA : A < 2 ^ 64) (hB : B < 2 ^ 64) : f98_1 F [(A : Int), (B : Int)] K = K (tl A B 128) := by
  simp only [f98_1]
  exact told98l hA hB 128 0 F (by omega) (by omega)

def lo (l : List Bool) (i : Nat) : Nat := mk (fun j => l.getD j false) (min i 64)
def hi (l : List Bool) (i : Nat) : Nat := mk (fun j => l.getD (64 + j) false) (i - 64)

theorem lo_lt (l : List Bool) (i : Nat) : lo l i < 2 ^ 64 := Nat.lt_of_lt_of_le (mk_lt _ _) (Nat.pow_le_pow_right (by omega) (by omega))
theorem hi_lt (l : List Bool) {i : Nat} (h : i ≤ 128) : hi l i < 2 ^ 64 := Nat.lt_of_lt_of_le (mk_lt _ _) (Nat.pow_le_pow_right (by omega) (by omega))

theorem made99l {β : Type} {F : Nat} {z : List Int} {l : List Bool} {K : List Int → Option β} (hl : l.length = 128) : ∀ (m i k : Nat), i + m = 128 → m < k →
    f99_1_l3 F l z K k (i : Int) [(lo l i : Int), (hi l i : Int)] = K [(lo l 128 : Int), (hi l 128 : Int)]
  | 0, i, k, h, hk => by
    obtain ⟨k, rfl⟩ : ∃ j, k = j + 1 := ⟨k - 1, by omega⟩
    obtain rfl : i = 128 := by omega
    simp only [f99_1_l3, hl]
    rw [cf (by omega)]
  | m + 1, i, k, h, hk => by
    obtain ⟨k, rfl⟩ : ∃ j, k = j + 1 := ⟨k - 1, by omega⟩
    have ih := made99l (F := F) (z := z) (K := K) hl m (i + 1) k (by omega) (by omega)
    simp only [f99_1_l3, hl, idx64 (show i < 128 by omega), md64, Nat.zero_add, Int.toNat_natCast]
    rw [ct (by omega), ct (by omega), ct (by omega), ct (by omega), ct (by omega), ct (by simp; omega), wu64 (x := ((i % 64 : Nat) : Int)) (by omega) (by omega), cf (by omega), w64 (x := (i : Int) + 1) (by omega) (by omega),
      show ((i : Int) + 1) = ((i + 1 : Nat) : Int) by omega, ← ih]
    by_cases h6 : i < 64
    · have h1 : i / 64 = 0 := by omega
      have h2 : i % 64 = i := by omega
      have e2 : hi l (i + 1) = hi l i := by simp only [hi]; rw [show i + 1 - 64 = i - 64 by omega]
      have e1 : lo l (i + 1) = if l.getD i false then lo l i ||| 2 ^ i else lo l i := by
        simp only [lo, Nat.min_eq_left (show i ≤ 64 by omega), Nat.min_eq_left (show i + 1 ≤ 64 by omega), mk]
      rw [e1, e2, h1, h2]
      cases hb : l.getD i false
      · simp
      · simp only [cond_true, List.set_cons_zero, List.getD_cons_zero, if_true]
        rw [shl64 h6, or64 (lo_lt _ _) (Nat.pow_lt_pow_right (by omega) h6), ct (by omega), ct (by simp)]
    · have h1 : i / 64 = 1 := by omega
      have h2 : i % 64 = i - 64 := by omega
      have e1 : lo l (i + 1) = lo l i := by simp only [lo]; rw [show min (i + 1) 64 = min i 64 by omega]
      have e2 : hi l (i + 1) = if l.getD i false then hi l i ||| 2 ^ (i - 64) else hi l i := by
        have e4 : 64 + (i - 64) = i := by omega
        simp only [hi]; rw [show i + 1 - 64 = (i - 64) + 1 by omega]; simp only [mk, e4]
      rw [e1, e2, h1, h2]
      cases hb : l.getD i false
      · simp
      · simp only [cond_true, List.set_cons_succ, List.set_cons_zero, List.getD_cons_succ, List.getD_cons_zero, if_true]
        rw [shl64 (by omega), or64 (hi_lt _ (by omega)) (Nat.pow_lt_pow_right (by omega) (by omega)), ct (by omega), ct (by simp)]

theorem made99 {β : Type} {F : Nat} {l : List Bool} {K : List Int → Option β} (hF : 200 ≤ F) (hl : l.length = 128) : f99_1 F l K = K [(lo l 128 : Int), (hi l 128 : Int)] := by
  simp only [f99_1]
  exact made99l hl 128 0 F (by omega) (by omega)

theorem tl_get {A B n j : Nat} (h : j < n) : (tl A B n)[j]? = some (hasB A B j) := by simp [tl, h]

/-- The parts of a list of 128 are those of two numbers. -/
theorem parts {l : List Bool} {A B : Nat} (hA : A < 2 ^ 64) (hB : B < 2 ^ 64) (h : ∀ j, j < 128 → l.getD j false = hasB A B j) : lo l 128 = A ∧ hi l 128 = B := by
  constructor
  · refine mk_eq (n := 64) hA fun j hj => ?_
    rw [h j (by omega), hasB, if_pos hj]
  · refine mk_eq (n := 64) hB fun j hj => ?_
    rw [h _ (by omega), hasB, if_neg (by omega)]
    congr 1; omega

theorem bits_or {A i j : Nat} : (A ||| 2 ^ i).testBit j = (A.testBit j || decide (i = j)) := by
  rw [Nat.testBit_or, Nat.testBit_two_pow]

theorem with_eq {β : Type} {F A B : Nat} {i : Int} {K : List Int → Int → Option β} (hF : 200 ≤ F) (hA : A < 2 ^ 64) (hB : B < 2 ^ 64) : f79_1 F [(A : Int), (B : Int)] i K = f80_1 F [(A : Int), (B : Int)] i K := by
  simp only [f79_1, f80_1, f97_1]
  by_cases h0 : i < 0
  · rw [cf (by omega), ct h0]; rfl
  · rw [ct (by omega), cf h0]
    by_cases h1 : i > 127
    · rw [ct h1]
      have : decide (i < 128) = false := by simp; omega
      rw [this]; rfl
    · rw [cf h1]
      have : decide (i < 128) = true := by simp; omega
      rw [this]
      obtain ⟨n, rfl⟩ : ∃ n : Nat, i = n := ⟨i.toNat, by omega⟩
      have hn : n < 128 := by omega
      simp only [Bool.not_true, cond_false, told98 hF hA hB, idx64 hn, md64, Nat.zero_add, Int.toNat_natCast]
      have hl : (tl A B 128).length = 128 := by simp [tl]
      rw [made99 hF (by simp [hl]), hl]
      rw [ct (by omega), ct (by simp; omega), cf (by omega), ct (by omega), ct (by simp; omega), ct (by omega), ct (by omega)]
      have hlen : ∀ x y : List Int, x = y → K x 0 = K y 0 := fun x y h => by rw [h]
      apply hlen
      by_cases h6 : n < 64
      · have e1 : n / 64 = 0 := by omega
        have e2 : n % 64 = n := by omega
        rw [e1, e2]
        simp only [List.set_cons_zero, List.getD_cons_zero]
        rw [shl64 h6, or64 hA (Nat.pow_lt_pow_right (by omega) h6)]
        have := parts (l := (tl A B 128).set n true) (A := A ||| 2 ^ n) (B := B) (Nat.or_lt_two_pow hA (Nat.pow_lt_pow_right (by omega) h6)) hB (fun j hj => by
          rw [List.getD_eq_getElem?_getD, List.getElem?_set]
          by_cases hj2 : n = j
          · subst hj2; simp [hl, hn, hasB, h6, bits_or]
          · rw [if_neg hj2, tl_get hj]; simp only [hasB, bits_or, hj2, decide_false, Bool.or_false, Option.getD_some])
        rw [this.1, this.2]
      · have e1 : n / 64 = 1 := by omega
        have e2 : n % 64 = n - 64 := by omega
        rw [e1, e2]
        simp only [List.set_cons_succ, List.set_cons_zero, List.getD_cons_succ, List.getD_cons_zero]
        rw [shl64 (by omega), or64 hB (Nat.pow_lt_pow_right (by omega) (by omega))]
        have := parts (l := (tl A B 128).set n true) (A := A) (B := B ||| 2 ^ (n - 64)) hA (Nat.or_lt_two_pow hB (Nat.pow_lt_pow_right (by omega) (by omega))) (fun j hj => by
          rw [List.getD_eq_getElem?_getD, List.getElem?_set]
          by_cases hj2 : n = j
          · subst hj2; simp [hl, hn, hasB, h6, bits_or]
          · rw [if_neg hj2, tl_get hj]
            simp only [hasB, bits_or, Option.getD_some]
            by_cases h64 : j < 64
            · simp [h64]
            · have : ¬ (n - 64 = j - 64) := by omega
              simp [h64, this])
        rw [this.1, this.2]

theorem orl {β : Type} {F A B C D : Nat} {z : List Int} {K : List Bool → Option β} (hC : C < 2 ^ 64) (hD : D < 2 ^ 64) : ∀ (m i k : Nat) (l : List Bool), i + m = 128 → m < k → l.length = 128 →
    (∀ j, j < i → l.getD j false = (hasB A B j || hasB C D j)) → (∀ j, i ≤ j → j < 128 → l.getD j false = hasB A B j) →
    ∃ l', l'.length = 128 ∧ (∀ j, j < 128 → l'.getD j false = (hasB A B j || hasB C D j)) ∧ f82_1_l3 F [(C : Int), (D : Int)] z K k (i : Int) l = K l'
  | 0, i, k, l, h, hk, hl, h1, h2 => by
    obtain ⟨k, rfl⟩ : ∃ j, k = j + 1 := ⟨k - 1, by omega⟩
    obtain rfl : i = 128 := by omega
    refine ⟨l, hl, h1, ?_⟩
    simp only [f82_1_l3]
    rw [cf (by omega)]
  | m + 1, i, k, l, h, hk, hl, h1, h2 => by
    obtain ⟨k, rfl⟩ : ∃ j, k = j + 1 := ⟨k - 1, by omega⟩
    have key : ∀ b, b = (hasB A B i || hasB C D i) → ∃ l', l'.length = 128 ∧ (∀ j, j < 128 → l'.getD j false = (hasB A B j || hasB C D j)) ∧ f82_1_l3 F [(C : Int), (D : Int)] z K k ((i + 1 : Nat) : Int) (l.set i b) = K l' := by
      intro b hb
      refine orl hC hD m (i + 1) k _ (by omega) (by omega) (by simp [hl]) (fun j hj => ?_) (fun j hj hj2 => ?_)
      · rw [List.getD_eq_getElem?_getD, List.getElem?_set]
        by_cases hij : i = j
        · subst hij; simp [hl, show i < 128 by omega, hb]
        · rw [if_neg hij, ← List.getD_eq_getElem?_getD, h1 j (by omega)]
      · rw [List.getD_eq_getElem?_getD, List.getElem?_set, if_neg (by omega), ← List.getD_eq_getElem?_getD, h2 j (by omega) hj2]
    simp only [f82_1_l3, hl, has100 hC hD (show i < 128 by omega), Nat.zero_add, Int.toNat_natCast]
    rw [ct (by omega), ct (by omega), ct (by omega), w64 (x := (i : Int) + 1) (by omega) (by omega), show ((i : Int) + 1) = ((i + 1 : Nat) : Int) by omega, h2 i (by omega) (by omega)]
    rw [ct (by omega), ct (by omega)]
    have k0 := key false
    have k1 := key true
    have k2 := key (hasB C D i)
    cases hb : hasB A B i
    · rw [cond_false, ct (by omega), ct (by omega)]; exact k2 (by simp [hb])
    · rw [cond_true]; exact k1 (by simp [hb])

theorem or81l {β : Type} {F A B C D : Nat} {z : List Int} {K : List Int → Option β} (hF : 4 ≤ F) (hA : A < 2 ^ 64) (hB : B < 2 ^ 64) (hC : C < 2 ^ 64) (hD : D < 2 ^ 64) :
    f81_1_l4 F [(C : Int), (D : Int)] z K F 0 [(A : Int), (B : Int)] = K [((A ||| C : Nat) : Int), ((B ||| D : Nat) : Int)] := by
  have e1 : IntKind.i64.wrap (0 + 1) = 1 := by kernel_rfl
  have e2 : IntKind.i64.wrap (1 + 1) = 2 := by kernel_rfl
  have key : ∀ k, f81_1_l4 F [(C : Int), (D : Int)] z K (k + 3) 0 [(A : Int), (B : Int)] = K [((A ||| C : Nat) : Int), ((B ||| D : Nat) : Int)] := by
    intro k
    simp only [f81_1_l4, e1, e2]
    simp [or64 hA hC, or64 hB hD]
  have := key (F - 3)
  rwa [show F - 3 + 3 = F by omega] at this

theorem or_eq {β : Type} {F A B C D : Nat} {K : List Int → Option β} (hF : 200 ≤ F) (hA : A < 2 ^ 64) (hB : B < 2 ^ 64) (hC : C < 2 ^ 64) (hD : D < 2 ^ 64) :
    f81_1 F [(A : Int), (B : Int)] [(C : Int), (D : Int)] K = f82_1 F [(A : Int), (B : Int)] [(C : Int), (D : Int)] K := by
  have e : f81_1 F [(A : Int), (B : Int)] [(C : Int), (D : Int)] K = K [((A ||| C : Nat) : Int), ((B ||| D : Nat) : Int)] := by
    simp only [f81_1]
    cases h : lbeq (.int .u64) [(A : Int), (B : Int)] [(C : Int), (D : Int)]
    · rw [cond_false, or81l (by omega) hA hB hC hD]
    · rw [cond_true]
      have := (lbeq_int_iff .u64 _ _).1 h
      simp only [List.cons.injEq, and_true] at this
      obtain ⟨q1, q2⟩ := this
      have q1 : A = C := Int.ofNat.inj q1
      have q2 : B = D := Int.ofNat.inj q2
      subst q1; subst q2
      rw [Nat.or_self, Nat.or_self]
  rw [e]
  simp only [f82_1, told98 hF hA hB]
  obtain ⟨l', h1, h2, h3⟩ := orl (F := F) (A := A) (B := B) (z := [0, 0]) (K := fun x7 => f99_1 F x7 fun x8 => K x8) hC hD 128 0 F (tl A B 128) (by omega) (by omega) (by simp [tl]) (fun j hj => by omega)
    (fun j _ hj => by rw [List.getD_eq_getElem?_getD, tl_get hj]; rfl)
  rw [show ((0 : Nat) : Int) = 0 from rfl] at h3
  rw [h3, made99 hF h1]
  have := parts (l := l') (A := A ||| C) (B := B ||| D) (Nat.or_lt_two_pow hA hC) (Nat.or_lt_two_pow hB hD) (fun j hj => by
    rw [h2 j hj]; simp only [hasB]; split <;> rw [Nat.testBit_or])
  rw [this.1, this.2]

theorem two {l : List Int} (h : l.length = 2) (hw : ∀ x ∈ l, wfE (.int .u64) x) : ∃ A B : Nat, l = [(A : Int), (B : Int)] ∧ A < 2 ^ 64 ∧ B < 2 ^ 64 := by
  match l, h with
  | [x, y], _ =>
    have hx := u64_of_wf (hw x (by simp))
    have hy := u64_of_wf (hw y (by simp))
    exact ⟨x.toNat, y.toNat, by simp [Int.toNat_of_nonneg hx.1, Int.toNat_of_nonneg hy.1], by omega, by omega⟩

theorem law_true {β : Type} (a1 a2 : List Int) (a3 a4 a5 : Int) (h1 : a1.length = 2 ∧ ∀ x ∈ a1, wfE (.int .u64) x) (h2 : a2.length = 2 ∧ ∀ x ∈ a2, wfE (.int .u64) x) (h3 : (Lit.int .u64 a3).wf = true) (h4 : (Lit.int .i64 a4).wf = true) (h5 : (Lit.int .u64 a5).wf = true) (r : β) :
    ∃ F, f5_1 F a1 a2 a3 a4 a5 (fun b => cond b (some r) none) = some r := by
  obtain ⟨F, hF⟩ : ∃ F, F = 200 := ⟨_, rfl⟩
  refine ⟨F, ?_⟩
  obtain ⟨A, B, rfl, hA, hB⟩ := two h1.1 h1.2
  obtain ⟨C, D, rfl, hC, hD⟩ := two h2.1 h2.2
  have hk : ∀ K : Bool → Option β, f33_1 F K = K true := fun K => by subst hF; kernel_rfl
  simp only [f5_1, f23_1, f24_1, f25_1, f26_1, f27_1, f28_1, f29_1, f30_1, f31_1, f32_1, hk, with_eq (F := F) (by omega) hA hB, or_eq (F := F) (by omega) hA hB hC hD]
  obtain ⟨v1, v2, hv⟩ : ∃ v1 v2, ∀ K : List Int → Int → Option β, f80_1 F [(A : Int), (B : Int)] a4 K = K v1 v2 := by
    simp only [f80_1, told98 (F := F) (by omega) hA hB]
    by_cases q1 : a4 < 0
    · exact ⟨_, _, fun K => by rw [ct q1]⟩
    · by_cases q2 : a4 > 127
      · exact ⟨_, _, fun K => by rw [cf q1, ct q2]⟩
      · have hl : (tl A B 128).length = 128 := by simp [tl]
        exact ⟨_, _, fun K => by rw [cf q1, cf q2, hl, ct (by omega), ct (by omega), made99 (by omega) (by simp [hl])]⟩
  obtain ⟨v3, hu⟩ : ∃ v3, ∀ K : List Int → Option β, f82_1 F [(A : Int), (B : Int)] [(C : Int), (D : Int)] K = K v3 := by
    refine ⟨[((A ||| C : Nat) : Int), ((B ||| D : Nat) : Int)], fun K => ?_⟩
    rw [← or_eq (by omega) hA hB hC hD]
    simp only [f81_1]
    cases h : lbeq (.int .u64) [(A : Int), (B : Int)] [(C : Int), (D : Int)]
    · rw [cond_false, or81l (by omega) hA hB hC hD]
    · rw [cond_true]
      have := (lbeq_int_iff .u64 _ _).1 h
      simp only [List.cons.injEq, and_true] at this
      obtain ⟨q1, q2⟩ := this
      have q1 : A = C := Int.ofNat.inj q1
      have q2 : B = D := Int.ofNat.inj q2
      subst q1; subst q2
      rw [Nat.or_self, Nat.or_self]
  simp only [hv, hu, lbeq_int, beq_self_eq_true, Bool.and_self, cond_true]
  by_cases hq : (v2 != 0) = true
  · simp [hq, lbeq_int]
  · simp [hq, lbeq_int]

end Go.Proofs.Ytlokielmpdjedaa.X
