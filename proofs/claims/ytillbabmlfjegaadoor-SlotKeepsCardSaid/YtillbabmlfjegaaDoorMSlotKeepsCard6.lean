/- Merged: SlotA, PureSlotKeeps. -/
import Derived.Test.YtillbabmlfjegaaDoorMSlotKeepsCard5
import Derived.Test.YtillbabmlfjegaaDoorMSlotKeepsCard4
section
/- Slots: saved, loaded; the code's and the document's, in one form. -/
namespace Go.Proofs.YtillbabmlfjegaaDoor.X
open Go Go.Proofs.YtillbabmlfjegaaDoor.Ev
set_option linter.unusedSectionVars false
variable [FZ]
set_option linter.unusedVariables false
set_option linter.unusedSimpArgs false

/-! ### A save -/

def svE (x k n : Int) (t : ByteArray) : Int × ByteArray :=
  if x < 0 ∨ x > 1200 then (3, ByteArray.empty) else if t.size > 50 then (8, ByteArray.empty) else ((mkR k (ofInts (b8 n) ++ t)).2, (mkR k (ofInts (b8 n) ++ t)).1)

theorem and1 {n : Int} (h : 0 ≤ n ∧ n < 18446744073709551616) : iand .u64 n 1 = n % 2 := by
  obtain ⟨N, rfl⟩ : ∃ N : Nat, n = (N : Int) := ⟨n.toNat, by omega⟩
  have := and64 (A := N) (B := 1) (by omega) (by decide)
  rw [show (1 : Int) = ((1 : Nat) : Int) from rfl, this, Nat.and_one_is_mod]
  omega

theorem saveP {β : Type} {m k : Nat} {x kind n a c : Int} {t : ByteArray} {b : Bool} {l : List ByteArray} {w : WL} (h : DS m k a c l w) (hk : k < 299) (hn : 0 ≤ n ∧ n < 18446744073709551616) {K0 : Int → Int → Bool → Int → Option β} {K1 : Int → Bool → Int → List ByteArray → WL → Option β} {K2 : Int → Int → Bool → Int → List ByteArray → WL → Option β} :
    f23_1 20000 x kind n t a b c l w K0 K1 K2 = svB (svE x kind n t) (x + n % 2) a b c l w K0 K2 := by
  rw [f23_1, svE]
  by_cases h1 : x < 0
  · rw [ct h1, if_pos (.inl h1), svB, if_pos (by simp)]
  · by_cases h2 : x > 1200
    · rw [cf h1, ct h2, if_pos (.inr h2), svB, if_pos (by simp)]
    · by_cases h3 : t.size > 50
      · rw [cf h1, cf h2, ct (by omega), if_neg (by omega), if_pos h3, svB, if_pos (by simp)]
      · have hs := app_size (ofInts (b8 n)) t
        have h8 := b8_size n
        have hbig := big60
        rw [cf h1, cf h2, cf (by omega), if_neg (by omega), if_neg h3, put8, ct (by omega), makeP (by omega), svB]
        by_cases h4 : (mkR kind (ofInts (b8 n) ++ t)).2 = 0
        · rw [bnf h4, cond_false, if_neg (by simp [h4]), and1 hn, w64 (x := n % 2) (by omega) (by omega), w64 (x := x + n % 2) (by omega) (by omega), writeP h, wrB_eq]
          by_cases h5 : (wS (x + n % 2) (mkR kind (ofInts (b8 n) ++ t)).1 a b c l w).1 = 0
          · rw [if_pos h5, if_neg (by simp [h5]), flushP (by omega) (wS_ok h (by omega)), flB_eq, fl_app]
          · rw [if_neg h5, if_pos h5, bnt h5, cond_true]
        · rw [bnt h4, cond_true, if_pos h4]

theorem saveR {β : Type} {m k : Nat} {x kind n a c : Int} {t : ByteArray} {b : Bool} {l : List ByteArray} {w : WL} (h : DS m k a c l w) (hk : k < 299) (hn : 0 ≤ n ∧ n < 18446744073709551616) {K0 : Int → Int → Bool → Int → Option β} {K1 : Int → Bool → Int → List ByteArray → WL → Option β} {K2 : Int → Int → Bool → Int → List ByteArray → WL → Option β} :
    f59_1 20000 x kind n t a b c l w K0 K1 K2 = svB (svE x kind n t) (x + n % 2) a b c l w K0 K2 := by
  rw [f59_1, svE]
  by_cases h1 : x < 0
  · rw [ct h1, if_pos (.inl h1), svB, if_pos (by simp)]
  · by_cases h2 : x > 1200
    · rw [cf h1, ct h2, if_pos (.inr h2), svB, if_pos (by simp)]
    · by_cases h3 : t.size > 50
      · rw [cf h1, cf h2, ct (by omega), if_neg (by omega), if_pos h3, svB, if_pos (by simp)]
      · have hs := app_size (ofInts (b8 n)) t
        have h8 := b8_size n
        have hbig := big60
        rw [cf h1, cf h2, cf (by omega), if_neg (by omega), if_neg h3, text8, ct (by omega), makeR (by omega), svB]
        by_cases h4 : (mkR kind (ofInts (b8 n) ++ t)).2 = 0
        · rw [bnf h4, cond_false, if_neg (by simp [h4]), Int.tmod_eq_emod_of_nonneg hn.1, w64 (x := n % 2) (by omega) (by omega), w64 (x := x + n % 2) (by omega) (by omega), writeR h, wrB_eq]
          by_cases h5 : (wS (x + n % 2) (mkR kind (ofInts (b8 n) ++ t)).1 a b c l w).1 = 0
          · rw [if_pos h5, if_neg (by simp [h5]), flushR (by omega) (wS_ok h (by omega)), flB_eq, fl_app]
          · rw [if_neg h5, if_pos h5, bnt h5, cond_true]
        · rw [bnt h4, cond_true, if_pos h4]

/-! ### A load -/

/-- What a sector has. -/
def one (kind x : Int) (b : Bool) (l : List ByteArray) (w : WL) : Bool × Int × ByteArray × Int :=
  if (rd x b l w).2 ≠ 0 then (false, 0, ByteArray.empty, (rd x b l w).2)
  else if (opn kind (rd x b l w).1).2 ≠ 0 ∨ (opn kind (rd x b l w).1).1.size < 8 then (false, 0, ByteArray.empty, 0)
  else (true, num 0 ((toInts (opn kind (rd x b l w).1).1).take 8), (opn kind (rd x b l w).1).1.extract 8 (opn kind (rd x b l w).1).1.size, 0)

theorem one_none {kind x : Int} {b : Bool} {l : List ByteArray} {w : WL} (h : (one kind x b l w).1 = false) : (one kind x b l w).2.1 = 0 ∧ (one kind x b l w).2.2.1 = ByteArray.empty := by
  unfold one at h ⊢
  split
  · exact ⟨rfl, rfl⟩
  · split
    · exact ⟨rfl, rfl⟩
    · rename_i h1 h2
      rw [if_neg h1, if_neg h2] at h
      cases h

theorem oneP {β : Type} {m k : Nat} {x kind a c : Int} {b : Bool} {l : List ByteArray} {w : WL} (h : DS m k a c l w) {K : Bool → Int → ByteArray → Int → Option β} :
    f57_1 20000 x kind a b c l w K = K (one kind x b l w).1 (one kind x b l w).2.1 (one kind x b l w).2.2.1 (one kind x b l w).2.2.2 := by
  rw [f57_1, readP (by omega) h, one]
  by_cases h1 : (rd x b l w).2 = 0
  · rw [bnf h1, cond_false, openP, if_neg (by simp [h1]), f49_1]
    generalize ho : opn kind (rd x b l w).1 = o
    have hos : o.1.size ≤ 58 := by rw [← ho]; exact opn_size _ _
    have hl := toInts_size o.1
    rw [ct (by omega), List.nil_append]
    have hnum := fun K0 K1 => numP (β := β) (w := 8) (l := toInts o.1) (K0 := K0) (K1 := K1) (by omega) (by omega) (by omega) (toInts_r _)
    refine (hnum _ _).trans ?_
    by_cases h2 : o.2 = 0
    · by_cases h3 : 8 ≤ (toInts o.1).length
      · rw [if_pos h3, if_neg (by simp [h2]; omega), bnf h2, cond_false, f97_1, ct ⟨by omega, by omega, by omega⟩]
        rfl
      · rw [if_neg h3, if_pos (.inr (by omega)), bnf h2, cond_false, f97_1]
        rfl
    · rw [bnt h2, cond_true, cond_true, ite_self, if_pos (Or.inl h2)]
  · rw [bnt h1, cond_true, if_pos h1]

theorem oneR {β : Type} {m k : Nat} {x kind a c : Int} {b : Bool} {l : List ByteArray} {w : WL} (h : DS m k a c l w) {K : Bool → Int → ByteArray → Int → Option β} :
    f98_1 20000 x kind a b c l w K = K (one kind x b l w).1 (one kind x b l w).2.1 (one kind x b l w).2.2.1 (one kind x b l w).2.2.2 := by
  rw [f98_1, readR (by omega) h, one]
  by_cases h1 : (rd x b l w).2 = 0
  · rw [bnf h1, cond_false, openR, if_neg (by simp [h1])]
    generalize ho : opn kind (rd x b l w).1 = o
    have hos : o.1.size ≤ 58 := by rw [← ho]; exact opn_size _ _
    have hl := toInts_size o.1
    by_cases h2 : o.2 = 0
    · rw [bnf h2, cond_false]
      by_cases h3 : o.1.size < 8
      · rw [ct (by omega), if_pos (.inr h3)]
      · have hg := fun K => getR (β := β) (at_ := 0) (w := 8) (l := toInts o.1) (K := K) (by omega) (by omega) (by omega) (by omega) (toInts_r _)
        rw [cf (by omega), if_neg (by simp [h2]; omega)]
        refine (hg _).trans ?_
        rw [ct ⟨by omega, by omega, by omega⟩, gt, if_pos (by omega)]
        rfl
    · rw [bnt h2, cond_true, if_pos (.inl h2)]
  · rw [bnt h1, cond_true, if_pos h1]

/-- The later one of two. -/
def lat (p q : Bool × Int × ByteArray × Int) : Int × ByteArray × Int :=
  if p.2.2.2 ≠ 0 then (0, ByteArray.empty, p.2.2.2)
  else if q.2.2.2 ≠ 0 then (0, ByteArray.empty, q.2.2.2)
  else if p.1 = false ∧ q.1 = false then (0, ByteArray.empty, 10)
  else if p.1 = false ∨ (q.1 = true ∧ q.2.1 > p.2.1) then (q.2.1, q.2.2.1, 0)
  else (p.2.1, p.2.2.1, 0)

def ld (x kind : Int) (b : Bool) (l : List ByteArray) (w : WL) : Int × ByteArray × Int := lat (one kind (if 1200 < x then 1200 else x) b l w) (one kind ((if 1200 < x then 1200 else x) + 1) b l w)

theorem latP {β : Type} {p q : Bool × Int × ByteArray × Int} (hp : p.1 = false → p.2.1 = 0 ∧ p.2.2.1 = ByteArray.empty) (hq : q.1 = false → q.2.1 = 0 ∧ q.2.2.1 = ByteArray.empty) {K0 : Int → ByteArray → Int → Option β} :
    cond (p.2.2.2 != 0) (K0 0 ByteArray.empty p.2.2.2) (cond (q.2.2.2 != 0) (K0 0 ByteArray.empty q.2.2.2) (cond ((p.1 == false) && ((p.2.1 == 0) && (p.2.2.1.toList == ByteArray.empty.toList))) (cond ((q.1 == false) && ((q.2.1 == 0) && (q.2.2.1.toList == ByteArray.empty.toList))) (K0 0 ByteArray.empty 10) (cond (!p.1) (K0 q.2.1 q.2.2.1 0) (cond q.1 (cond (decide (q.2.1 > p.2.1)) (K0 q.2.1 q.2.2.1 0) (K0 p.2.1 p.2.2.1 0)) (K0 p.2.1 p.2.2.1 0)))) (cond (!p.1) (K0 q.2.1 q.2.2.1 0) (cond q.1 (cond (decide (q.2.1 > p.2.1)) (K0 q.2.1 q.2.2.1 0) (K0 p.2.1 p.2.2.1 0)) (K0 p.2.1 p.2.2.1 0))))) = K0 (lat p q).1 (lat p q).2.1 (lat p q).2.2 := by
  obtain ⟨p1, p2, p3, p4⟩ := p
  obtain ⟨q1, q2, q3, q4⟩ := q
  simp only [lat] at hp hq ⊢
  by_cases h1 : p4 = 0
  · subst h1
    by_cases h2 : q4 = 0
    · subst h2
      cases p1 with
      | false =>
        obtain ⟨rfl, rfl⟩ := hp rfl
        cases q1 with
        | false =>
          obtain ⟨rfl, rfl⟩ := hq rfl
          simp
        | true => simp
      | true =>
        cases q1 with
        | false => simp
        | true =>
          by_cases h3 : q2 > p2
          · simp [h3]
          · simp [h3]
    · rw [bnf rfl, cond_false, bnt h2, cond_true]; simp [h2]
  · rw [bnt h1, cond_true]; simp [h1]

theorem latR {β : Type} {p q : Bool × Int × ByteArray × Int} {K0 : Int → ByteArray → Int → Option β} :
    cond (p.2.2.2 != 0) (K0 0 ByteArray.empty p.2.2.2) (cond (q.2.2.2 != 0) (K0 0 ByteArray.empty q.2.2.2) (cond (!p.1) (cond (!q.1) (K0 0 ByteArray.empty 10) (cond (!p.1) (K0 q.2.1 q.2.2.1 0) (cond q.1 (cond (decide (q.2.1 > p.2.1)) (K0 q.2.1 q.2.2.1 0) (K0 p.2.1 p.2.2.1 0)) (K0 p.2.1 p.2.2.1 0)))) (cond (!p.1) (K0 q.2.1 q.2.2.1 0) (cond q.1 (cond (decide (q.2.1 > p.2.1)) (K0 q.2.1 q.2.2.1 0) (K0 p.2.1 p.2.2.1 0)) (K0 p.2.1 p.2.2.1 0))))) = K0 (lat p q).1 (lat p q).2.1 (lat p q).2.2 := by
  obtain ⟨p1, p2, p3, p4⟩ := p
  obtain ⟨q1, q2, q3, q4⟩ := q
  simp only [lat]
  by_cases h1 : p4 = 0
  · subst h1
    by_cases h2 : q4 = 0
    · subst h2
      cases p1 with
      | false => cases q1 <;> simp
      | true =>
        cases q1 with
        | false => simp
        | true =>
          by_cases h3 : q2 > p2
          · simp [h3]
          · simp [h3]
    · rw [bnf rfl, cond_false, bnt h2, cond_true]; simp [h2]
  · rw [bnt h1, cond_true]; simp [h1]

theorem loadP {β : Type} {m k : Nat} {x kind a c : Int} {b : Bool} {l : List ByteArray} {w : WL} (h : DS m k a c l w) (hx : -9223372036854775808 ≤ x) {K : Int → ByteArray → Int → Option β} :
    f27_1 20000 x kind a b c l w K = K (ld x kind b l w).1 (ld x kind b l w).2.1 (ld x kind b l w).2.2 := by
  have e : IntKind.i64.wrap ((if 1200 < x then 1200 else x) + 1) = (if 1200 < x then 1200 else x) + 1 := w64 (by split <;> omega) (by split <;> omega)
  rw [f27_1, oneP h, e]
  simp only [oneP h]
  exact latP one_none one_none

theorem one_out {kind x : Int} {b : Bool} {l : List ByteArray} {w : WL} (hx : ¬ (0 ≤ x ∧ x < (l.length : Int))) : one kind x b l w = (false, 0, ByteArray.empty, if b = true then 5 else 3) := by
  unfold one rd kp
  cases b <;> simp [hx]

theorem loadR {β : Type} {m k : Nat} {x kind a c : Int} {b : Bool} {l : List ByteArray} {w : WL} (h : DS m k a c l w) (hm : m ≤ 1200) (hx : -9223372036854775808 ≤ x) {K : Int → ByteArray → Int → Option β} :
    f58_1 20000 x kind a b c l w K = K (ld x kind b l w).1 (ld x kind b l w).2.1 (ld x kind b l w).2.2 := by
  have hl := h.len
  rw [f58_1, ld]
  by_cases h1 : x > 1200
  · rw [ct h1, if_pos h1, one_out (x := 1200) (by omega), oneR h, one_out (x := -1) (by omega)]
    cases b <;> rfl
  · rw [cf h1, if_neg h1, w64 (x := x + 1) (by omega) (by omega), oneR h]
    simp only [oneR h]
    exact latR

end Go.Proofs.YtillbabmlfjegaaDoor.X
end

section
/- The law: what is kept of a save. -/
namespace Go.Proofs.YtillbabmlfjegaaDoor.X
open Go Go.Proofs.YtillbabmlfjegaaDoor.Ev
set_option linter.unusedSectionVars false
variable [FZ]
set_option linter.unusedVariables false
set_option linter.unusedSimpArgs false

set_option maxRecDepth 100000 in
theorem known09 {β : Type} {K : Bool → Option β} : f21_1 20000 K = K true := by kernel_rfl
theorem new4 {β : Type} {K0 : Option β} {K1 : List ByteArray → WL → Option β} : f22_1 20000 4 K0 K1 = K1 [Z64, Z64, Z64, Z64] [] := by kernel_rfl

theorem one_zero {k x : Int} {l : List ByteArray} (hx : 0 ≤ x ∧ x < (l.length : Int)) (h : l.getD x.toNat ByteArray.empty = Z64) : one k x false l [] = (false, 0, ByteArray.empty, 0) := by
  rw [one, rd_nil hx, if_neg (by simp)]
  rw [if_pos (.inl (by show (opn k (l.getD x.toNat ByteArray.empty)).2 ≠ 0; rw [h]; exact opn_zero k))]

theorem one_rec {k x n : Int} {l : List ByteArray} {s : ByteArray} (hx : 0 ≤ x ∧ x < (l.length : Int)) (hk : 1 ≤ k ∧ k ≤ 8) (hs : s.size ≤ 50) (hn : 0 ≤ n ∧ n < 18446744073709551616) (h : l.getD x.toNat ByteArray.empty = mkB k (ofInts (b8 n) ++ s)) : one k x false l [] = (true, n, s, 0) := by
  have h8 := b8_size n
  have hsz := app_size (ofInts (b8 n)) s
  have ho : opn k (l.getD x.toNat ByteArray.empty) = (ofInts (b8 n) ++ s, 0) := by rw [h]; exact mkB_open hk.1 hk.2 (by omega)
  have e1 : (toInts (ofInts (b8 n) ++ s)).take 8 = b8 n := by
    have ht : toInts (ofInts (b8 n) ++ s) = toInts (ofInts (b8 n)) ++ toInts s := by rw [toInts_D, toInts_D, toInts_D, D_app, List.map_append]
    rw [ht, toInts_ofInts (b8_r n)]
    exact List.take_left' rfl
  have e2 : (ofInts (b8 n) ++ s).extract 8 (ofInts (b8 n) ++ s).size = s := by
    apply extB
    rw [D_ext, D_app, hsz, h8]
    have hl : (D (ofInts (b8 n))).length = 8 := by rw [← D_size]; exact h8
    rw [List.drop_left' hl, List.take_of_length_le (by rw [← D_size]; omega)]
  rw [one, rd_nil hx]
  show (if (0 : Int) ≠ 0 then _ else if (opn k (l.getD x.toNat ByteArray.empty)).2 ≠ 0 ∨ (opn k (l.getD x.toNat ByteArray.empty)).1.size < 8 then _ else (true, num 0 ((toInts (opn k (l.getD x.toNat ByteArray.empty)).1).take 8), (opn k (l.getD x.toNat ByteArray.empty)).1.extract 8 (opn k (l.getD x.toNat ByteArray.empty)).1.size, 0)) = _
  rw [ho, if_neg (by simp), if_neg (by simp; omega)]
  show (true, num 0 ((toInts (ofInts (b8 n) ++ s)).take 8), (ofInts (b8 n) ++ s).extract 8 (ofInts (b8 n) ++ s).size, (0 : Int)) = _
  rw [e1, num8 hn, e2]

theorem svE_ok {x n : Int} {s : ByteArray} (hx : x = 1) (hs : s.size ≤ 50) : svE x 4 n s = (0, mkB 4 (ofInts (b8 n) ++ s)) := by
  have h8 := b8_size n
  have hsz := app_size (ofInts (b8 n)) s
  rw [svE, if_neg (by omega), if_neg (by omega), mkR, if_neg (by omega), if_neg (by omega)]

/-- What Load tells ahead of the second save, and behind it. -/
theorem lds {n : Int} {o t : ByteArray} (hn : 0 ≤ n ∧ n < 18446744073709551615) (ho : o.size ≤ 50) (ht : t.size ≤ 50) :
    ld 1 4 false (put1 [Z64, Z64, Z64, Z64] (1 + n % 2, mkB 4 (ofInts (b8 n) ++ o))) [] = (n, o, 0) ∧
    ld 1 4 false (put1 (put1 [Z64, Z64, Z64, Z64] (1 + n % 2, mkB 4 (ofInts (b8 n) ++ o))) (1 + (n + 1) % 2, mkB 4 (ofInts (b8 (n + 1)) ++ t))) [] = (n + 1, t, 0) := by
  rcases (show n % 2 = 0 ∨ n % 2 = 1 by omega) with hp | hp
  · have hp2 : (n + 1) % 2 = 1 := by omega
    rw [hp, hp2]
    refine ⟨?_, ?_⟩
    · rw [ld, one_rec (n := n) (s := o) (by refine ⟨by decide, ?_⟩; simp only [put1_len]; decide) (by omega) ho (by omega) rfl, one_zero (by refine ⟨by decide, ?_⟩; simp only [put1_len]; decide) rfl]
      simp [lat]
    · rw [ld, one_rec (n := n) (s := o) (by refine ⟨by decide, ?_⟩; simp only [put1_len]; decide) (by omega) ho (by omega) rfl, one_rec (n := n + 1) (s := t) (by refine ⟨by decide, ?_⟩; simp only [put1_len]; decide) (by omega) ht (by omega) rfl]
      have : n + 1 > n := by omega
      simp [lat, this]
  · have hp2 : (n + 1) % 2 = 0 := by omega
    rw [hp, hp2]
    refine ⟨?_, ?_⟩
    · rw [ld, one_zero (by refine ⟨by decide, ?_⟩; simp only [put1_len]; decide) rfl, one_rec (n := n) (s := o) (by refine ⟨by decide, ?_⟩; simp only [put1_len]; decide) (by omega) ho (by omega) rfl]
      simp [lat]
    · rw [ld, one_rec (n := n + 1) (s := t) (by refine ⟨by decide, ?_⟩; simp only [put1_len]; decide) (by omega) ht (by omega) rfl, one_rec (n := n) (s := o) (by refine ⟨by decide, ?_⟩; simp only [put1_len]; decide) (by omega) ho (by omega) rfl]
      have : ¬ n > n + 1 := by omega
      simp [lat, this]

theorem law_true {β : Type} (n : Int) (o t : ByteArray) (z : Int) (ks : Sl .bool) (hn : (Lit.int .u64 n).wf = true) {q1 q2 q3 q4 : Prop} (_ : q1) (_ : q2) (_ : q3) (_ : q4) (r : β) : ∃ F, f7_1 F n o t z ks (fun b => cond b (some r) none) = some r := by
  refine ⟨20000, ?_⟩
  have hn64 := u64_of_wf hn
  rw [f7_1]
  simp only [known09]
  by_cases h1 : (o.size : Int) > 50
  · rw [ct h1]; rfl
  by_cases h2 : (t.size : Int) > 50
  · rw [cf h1, ct h2]; rfl
  by_cases h3 : n > 1152921504606846976
  · rw [cf h1, cf h2, ct h3]; rfl
  by_cases h4 : z < 0
  · rw [cf h1, cf h2, cf h3, ct h4]; rfl
  by_cases h5 : z > 2
  · rw [cf h1, cf h2, cf h3, cf h4, ct h5]; rfl
  rw [cf h1, cf h2, cf h3, cf h4, cf h5, new4]
  have hnw : IntKind.u64.wrap (n + 1) = n + 1 := wu64 (by omega) (by omega)
  rw [hnw]
  have hd0 : DS 4 0 (-1) 0 [Z64, Z64, Z64, Z64] [] := ⟨by omega, by omega, rfl, by simp, fun p hp => (by cases hp), by omega, by omega⟩
  have hr1 : (mkB 4 (ofInts (b8 n) ++ o)).size = 64 := mkB_size (by have := app_size (ofInts (b8 n)) o; have := b8_size n; omega)
  have hr2 : (mkB 4 (ofInts (b8 (n + 1)) ++ t)).size = 64 := mkB_size (by have := app_size (ofInts (b8 (n + 1))) t; have := b8_size (n + 1); omega)
  have hx1 : 0 ≤ 1 + n % 2 ∧ 1 + n % 2 < (([Z64, Z64, Z64, Z64] : List ByteArray).length : Int) := by simp; omega
  rw [saveP hd0 (by omega) hn64, svE_ok rfl (by omega), (svB_at hx1 hr1).1 rfl, bnf rfl, cond_false]
  generalize hl1 : put1 [Z64, Z64, Z64, Z64] (1 + n % 2, mkB 4 (ofInts (b8 n) ++ o)) = l1
  have hlen : l1.length = 4 := by rw [← hl1, put1_len]; rfl
  obtain ⟨g1, g2⟩ := lds (n := n) (o := o) (t := t) (by omega) (by omega) (by omega)
  rw [hl1] at g1 g2
  have hx2 : 0 ≤ 1 + (n + 1) % 2 ∧ 1 + (n + 1) % 2 < (l1.length : Int) := by rw [hlen]; omega
  have hd : ∀ a c, -1 ≤ a ∧ a ≤ 2 → 0 ≤ c ∧ c ≤ 10 → DS 4 10 a c l1 [] := fun a c ha hc => ⟨by omega, by omega, hlen, by simp, fun p hp => (by cases hp), by omega, by omega⟩
  have hd2 : ∀ a c p, -1 ≤ a ∧ a ≤ 2 → 0 ≤ c ∧ c ≤ 10 → DS 4 10 a c (put1 l1 p) [] := fun a c p ha hc => ⟨by omega, by omega, by rw [put1_len]; exact hlen, by simp, fun p hp => (by cases hp), by omega, by omega⟩
  have hd3 : ∀ a c, -1 ≤ a ∧ a ≤ 2 → 0 ≤ c ∧ c ≤ 10 → DS 4 10 a c l1 [(1 + (n + 1) % 2, mkB 4 (ofInts (b8 (n + 1)) ++ t))] := fun a c ha hc => ⟨by omega, by omega, hlen, by simp, fun p hp => (by simp at hp; subst hp; show (0 : Int) ≤ 1 + (n + 1) % 2 ∧ _; rw [hlen] at hx2; exact hx2), by omega, by omega⟩
  have hb : ∀ s : ByteArray, (s.toList == s.toList) = true := fun s => by simp
  rcases (show z = 0 ∨ z = 1 ∨ z = 2 by omega) with rfl | rfl | rfl
  · rw [f24_1, if_neg (by omega), saveP (hd 0 _ (by omega) (by omega)) (by omega) (by omega), svE_ok rfl (by omega), (svB_at hx2 hr2).2.1 rfl, crashP (by omega) (hd (-1) _ (by omega) (by omega)), f26_1]
    rw [show crB ks.dat 0 [] l1 = l1 from rfl, cond_ff', loadP (hd (-1) _ (by omega) (by omega)) (by omega), g1]
    simp [hb]
  · rw [f24_1, if_neg (by omega), saveP (hd 1 _ (by omega) (by omega)) (by omega) (by omega), svE_ok rfl (by omega), (svB_at hx2 hr2).2.2.1 rfl, crashP (by omega) (hd3 (-1) _ (by omega) (by omega)), f26_1, cond_ff']
    rcases crB_one (ks := ks.dat) (p := (1 + (n + 1) % 2, mkB 4 (ofInts (b8 (n + 1)) ++ t))) (l := l1) with e | e
    · rw [e, loadP (hd (-1) _ (by omega) (by omega)) (by omega), g1]
      simp [hb]
    · rw [e, loadP (hd2 (-1) _ _ (by omega) (by omega)) (by omega), g2]
      have : ¬ (n + 1 = n) := by omega
      simp [hb]
  · rw [f24_1, if_neg (by omega), saveP (hd 2 _ (by omega) (by omega)) (by omega) (by omega), svE_ok rfl (by omega), (svB_at hx2 hr2).2.2.2 rfl, crashP (by omega) (hd2 0 _ _ (by omega) (by omega)), f26_1]
    rw [show ∀ l, crB ks.dat 0 [] l = l from fun _ => rfl, cond_ff', loadP (hd2 (-1) _ _ (by omega) (by omega)) (by omega), g2]
    simp [hb]

end Go.Proofs.YtillbabmlfjegaaDoor.X
end
