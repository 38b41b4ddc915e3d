/- Merged: NumB, SlotA, PureSlotPlays. -/
import Derived.Test.YtillbabmlfjegaaDoorMSlotPlaysCard8
import Derived.Test.YtillbabmlfjegaaDoorMSlotPlaysCard4
import Derived.Test.YtillbabmlfjegaaDoorMSlotPlaysCard5
section
/- Numbers of eight bytes; reading them; a save of one sector: of slots and of maps. -/
namespace Go.Proofs.YtillbabmlfjegaaDoor.X
open Go Go.Proofs.YtillbabmlfjegaaDoor.Ev
set_option linter.unusedSectionVars false
variable [FZ]
set_option linter.unusedVariables false
set_option linter.unusedSimpArgs false

theorem bnf {a b : Int} (h : a = b) : (a != b) = false := by simp [h]
theorem bnt {a b : Int} (h : a ≠ b) : (a != b) = true := by simp [h]

/-! ### Numbers of eight bytes -/

def b8 (n : Int) : List Int := [IntKind.u8.wrap (ishr .u64 n 56), IntKind.u8.wrap (ishr .u64 n 48), IntKind.u8.wrap (ishr .u64 n 40), IntKind.u8.wrap (ishr .u64 n 32), IntKind.u8.wrap (ishr .u64 n 24), IntKind.u8.wrap (ishr .u64 n 16), IntKind.u8.wrap (ishr .u64 n 8), IntKind.u8.wrap (ishr .u64 n 0)]
theorem put8 {β : Type} {n : Int} {K : List Int → Option β} : f47_1 20000 8 n [] K = K (b8 n) := by kernel_rfl
theorem text8 {β : Type} {n : Int} {K : ByteArray → Option β} : f40_1 20000 8 n K = K (ofInts (b8 n)) := by kernel_rfl

theorem b8_r (n : Int) : ∀ x ∈ b8 n, 0 ≤ x ∧ x < 256 := by
  intro x hx
  simp only [b8, List.mem_cons, List.not_mem_nil, or_false] at hx
  rcases hx with rfl | rfl | rfl | rfl | rfl | rfl | rfl | rfl <;> (rw [wu8m]; omega)

theorem shrN {n : Int} (h : 0 ≤ n) : ishr .u64 n 56 = n / 72057594037927936 ∧ ishr .u64 n 48 = n / 281474976710656 ∧ ishr .u64 n 40 = n / 1099511627776 ∧ ishr .u64 n 32 = n / 4294967296 ∧ ishr .u64 n 24 = n / 16777216 ∧ ishr .u64 n 16 = n / 65536 ∧ ishr .u64 n 8 = n / 256 ∧ ishr .u64 n 0 = n := by
  have e : ∀ (s : Int) (d : Int), (2 : Int) ^ (min s.toNat IntKind.u64.bits) = d → 0 < d → ishr .u64 n s = n / d := fun s d h1 h2 => by
    rw [ishr, h1, Int.fdiv_eq_ediv_of_nonneg _ (by omega)]
  refine ⟨e 56 _ (by decide) (by decide), e 48 _ (by decide) (by decide), e 40 _ (by decide) (by decide), e 32 _ (by decide) (by decide), e 24 _ (by decide) (by decide), e 16 _ (by decide) (by decide), e 8 _ (by decide) (by decide), ?_⟩
  rw [e 0 1 (by decide) (by decide)]; omega

theorem num8 {n : Int} (h : 0 ≤ n ∧ n < 18446744073709551616) : num 0 (b8 n) = n := by
  obtain ⟨e1, e2, e3, e4, e5, e6, e7, e8⟩ := shrN h.1
  simp only [num, b8, List.foldl_cons, List.foldl_nil, wu8m, e1, e2, e3, e4, e5, e6, e7, e8]
  omega

theorem toInts_ofInts {l : List Int} (h : ∀ x ∈ l, 0 ≤ x ∧ x < 256) : toInts (ofInts l) = l := by
  rw [toInts_D, D_ofInts, List.map_map]
  conv => rhs; rw [← List.map_id l]
  apply List.map_congr_left
  intro x hx
  have := h x hx
  simp only [Function.comp, id, UInt8.toNat_ofNat']
  omega

theorem toInts_r (s : ByteArray) : ∀ x ∈ toInts s, 0 ≤ x ∧ x < 256 := by
  intro x hx
  rw [toInts_D] at hx
  obtain ⟨c, _, rfl⟩ := List.mem_map.1 hx
  have := c.toNat_lt
  omega

theorem b8_size (n : Int) : (ofInts (b8 n)).size = 8 := by rw [D_size, D_ofInts]; rfl
theorem app_size (s t : ByteArray) : (s ++ t).size = s.size + t.size := by rw [D_size, D_app, List.length_append, ← D_size, ← D_size]
theorem toInts_size (s : ByteArray) : (toInts s).length = s.size := by rw [toInts_D, List.length_map, ← D_size]

/-- A number is read out of bytes, or there are not so many. -/
theorem numP {β : Type} {w : Nat} {l : List Int} {K0 : Int → Option β} {K1 : Int → List Int → Option β} (h1 : 1 ≤ w) (hw : w ≤ 8) (hll : l.length ≤ 100000) (hb : ∀ x ∈ l, 0 ≤ x ∧ x < 256) :
    f51_1 20000 (w : Int) 0 l K0 K1 = if w ≤ l.length then K1 (num 0 (l.take w)) (l.drop w) else K0 7 := by
  have hg := fun K => getP (β := β) (at_ := 0) (w := w) (l := l) (K := K) h1 hw (by omega) hll hb
  rw [f51_1, show ((0 : Int) != 0) = false from rfl, cond_false]
  refine (hg _).trans ?_
  rw [gt]
  by_cases h2 : w ≤ l.length
  · rw [if_pos (by omega), if_pos h2, List.drop_zero]
    show cond ((0 : Int) != 0) _ _ = _
    rw [bnf rfl, cond_false, ct ⟨by omega, by omega, by omega⟩, show 0 + (w : Int).toNat = w by omega, List.take_of_length_le (l := l.drop w) (by simp)]
  · rw [if_neg (by omega), if_neg h2]
    rfl

theorem opn_size (k : Int) (s : ByteArray) : (opn k s).1.size ≤ 58 := by
  unfold opn
  split
  · show ByteArray.empty.size ≤ 58; decide
  · rename_i h1
    split
    · show ByteArray.empty.size ≤ 58; decide
    · obtain ⟨q1, q2, _⟩ := kd_size (Classical.not_not.1 h1)
      have := byt_r s 1
      show (s.extract 2 (2 + (byt s 1).toNat)).size ≤ 58
      rw [D_size, D_ext]; simp; omega

/-! ### A save of a sector -/

def svB {β : Type} (e : Int × ByteArray) (x a : Int) (b : Bool) (c : Int) (l : List ByteArray) (w : WL) (K0 : Int → Int → Bool → Int → Option β) (K2 : Int → Int → Bool → Int → List ByteArray → WL → Option β) : Option β :=
  if e.1 ≠ 0 then K0 e.1 a b c
  else if (wS x e.2 a b c l w).1 ≠ 0 then K0 (wS x e.2 a b c l w).1 (wS x e.2 a b c l w).2.1 (wS x e.2 a b c l w).2.2.1 (wS x e.2 a b c l w).2.2.2.1
  else app K2 (fS (wS x e.2 a b c l w).2.1 (wS x e.2 a b c l w).2.2.1 (wS x e.2 a b c l w).2.2.2.1 l (wS x e.2 a b c l w).2.2.2.2)

theorem big60 : 60 ≤ maxLen := by decide

theorem cond_ff' {α : Sort _} {a b : α} : cond (!true) a b = b := rfl
theorem Z64_b0 : byt Z64 0 = 0 := by rw [byt, getD_D, Z64_D]; rfl

theorem opn_zero (k : Int) : (opn k Z64).2 ≠ 0 := by
  unfold opn
  split
  · assumption
  · rename_i h
    obtain ⟨_, _, _, _, q5, _⟩ := kd_size (Classical.not_not.1 h)
    rw [Z64_b0] at q5; omega

theorem rd_nil {x : Int} {l : List ByteArray} (hx : 0 ≤ x ∧ x < (l.length : Int)) : rd x false l [] = (l.getD x.toNat ByteArray.empty, 0) := by
  rw [rd, if_neg (by simp), if_pos hx, kp, if_pos hx]; rfl

/-- A save on a disk that nothing waits on: by the fuse. -/
theorem svB_at {β : Type} {x c a : Int} {r : ByteArray} {l : List ByteArray} {K0 : Int → Int → Bool → Int → Option β} {K2 : Int → Int → Bool → Int → List ByteArray → WL → Option β} (hx : 0 ≤ x ∧ x < (l.length : Int)) (hr : r.size = 64) :
    (a = -1 → svB (0, r) x a false c l [] K0 K2 = K2 0 (-1) false (c + 1 + 1) (put1 l (x, r)) []) ∧
    (a = 0 → svB (0, r) x a false c l [] K0 K2 = K0 5 (-1) true c) ∧
    (a = 1 → svB (0, r) x a false c l [] K0 K2 = K2 5 (-1) true (c + 1) l [(x, r)]) ∧
    (a = 2 → svB (0, r) x a false c l [] K0 K2 = K2 0 0 false (c + 1 + 1) (put1 l (x, r)) []) := by
  have hw : ∀ a, a ≠ 0 → wS x r a false c l [] = (0, dec a, false, c + 1, [(x, r)]) := fun a ha => by
    rw [wS, if_neg (by simp), if_neg (by simp [hx]), if_neg (by simp [hr]), if_neg ha]; rfl
  refine ⟨?_, ?_, ?_, ?_⟩
  · rintro rfl
    rw [svB, if_neg (by simp), hw _ (by omega), if_neg (by simp), fS, if_neg (by simp)]
    rfl
  · rintro rfl
    have : wS x r 0 false c l [] = (5, -1, true, c, []) := by rw [wS, if_neg (by simp), if_neg (by simp [hx]), if_neg (by simp [hr]), if_pos rfl]
    rw [svB, if_neg (by simp), this, if_pos (by simp)]
  · rintro rfl
    rw [svB, if_neg (by simp), hw _ (by omega), if_neg (by simp), fS, if_neg (by simp)]
    rfl
  · rintro rfl
    rw [svB, if_neg (by simp), hw _ (by omega), if_neg (by simp), fS, if_neg (by simp)]
    rfl

theorem crB_one {ks : List Bool} {p : Int × ByteArray} {l : List ByteArray} : crB ks 0 [p] l = l ∨ crB ks 0 [p] l = put1 l p := by
  rw [crB, crB]
  cases ks.getD 0 false with
  | false => exact .inl rfl
  | true => exact .inr rfl

end Go.Proofs.YtillbabmlfjegaaDoor.X
end

section
/- Slots: saved, loaded; the code's and the document's, in one form. -/
namespace Go.Proofs.YtillbabmlfjegaaDoor.X
open Go Go.Proofs.YtillbabmlfjegaaDoor.Ev
set_option linter.unusedSectionVars false
variable [FZ]
set_option linter.unusedVariables false
set_option linter.unusedSimpArgs false

/-! ### A save -/

def svE (x k n : Int) (t : ByteArray) : Int × ByteArray :=
  if x < 0 ∨ x > 1200 then (3, ByteArray.empty) else if t.size > 50 then (8, ByteArray.empty) else ((mkR k (ofInts (b8 n) ++ t)).2, (mkR k (ofInts (b8 n) ++ t)).1)

theorem and1 {n : Int} (h : 0 ≤ n ∧ n < 18446744073709551616) : iand .u64 n 1 = n % 2 := by
  obtain ⟨N, rfl⟩ : ∃ N : Nat, n = (N : Int) := ⟨n.toNat, by omega⟩
  have := and64 (A := N) (B := 1) (by omega) (by decide)
  rw [show (1 : Int) = ((1 : Nat) : Int) from rfl, this, Nat.and_one_is_mod]
  omega

theorem saveP {β : Type} {m k : Nat} {x kind n a c : Int} {t : ByteArray} {b : Bool} {l : List ByteArray} {w : WL} (h : DS m k a c l w) (hk : k < 299) (hn : 0 ≤ n ∧ n < 18446744073709551616) {K0 : Int → Int → Bool → Int → Option β} {K1 : Int → Bool → Int → List ByteArray → WL → Option β} {K2 : Int → Int → Bool → Int → List ByteArray → WL → Option β} :
    f23_1 20000 x kind n t a b c l w K0 K1 K2 = svB (svE x kind n t) (x + n % 2) a b c l w K0 K2 := by
  rw [f23_1, svE]
  by_cases h1 : x < 0
  · rw [ct h1, if_pos (.inl h1), svB, if_pos (by simp)]
  · by_cases h2 : x > 1200
    · rw [cf h1, ct h2, if_pos (.inr h2), svB, if_pos (by simp)]
    · by_cases h3 : t.size > 50
      · rw [cf h1, cf h2, ct (by omega), if_neg (by omega), if_pos h3, svB, if_pos (by simp)]
      · have hs := app_size (ofInts (b8 n)) t
        have h8 := b8_size n
        have hbig := big60
        rw [cf h1, cf h2, cf (by omega), if_neg (by omega), if_neg h3, put8, ct (by omega), makeP (by omega), svB]
        by_cases h4 : (mkR kind (ofInts (b8 n) ++ t)).2 = 0
        · rw [bnf h4, cond_false, if_neg (by simp [h4]), and1 hn, w64 (x := n % 2) (by omega) (by omega), w64 (x := x + n % 2) (by omega) (by omega), writeP h, wrB_eq]
          by_cases h5 : (wS (x + n % 2) (mkR kind (ofInts (b8 n) ++ t)).1 a b c l w).1 = 0
          · rw [if_pos h5, if_neg (by simp [h5]), flushP (by omega) (wS_ok h (by omega)), flB_eq, fl_app]
          · rw [if_neg h5, if_pos h5, bnt h5, cond_true]
        · rw [bnt h4, cond_true, if_pos h4]

theorem saveR {β : Type} {m k : Nat} {x kind n a c : Int} {t : ByteArray} {b : Bool} {l : List ByteArray} {w : WL} (h : DS m k a c l w) (hk : k < 299) (hn : 0 ≤ n ∧ n < 18446744073709551616) {K0 : Int → Int → Bool → Int → Option β} {K1 : Int → Bool → Int → List ByteArray → WL → Option β} {K2 : Int → Int → Bool → Int → List ByteArray → WL → Option β} :
    f59_1 20000 x kind n t a b c l w K0 K1 K2 = svB (svE x kind n t) (x + n % 2) a b c l w K0 K2 := by
  rw [f59_1, svE]
  by_cases h1 : x < 0
  · rw [ct h1, if_pos (.inl h1), svB, if_pos (by simp)]
  · by_cases h2 : x > 1200
    · rw [cf h1, ct h2, if_pos (.inr h2), svB, if_pos (by simp)]
    · by_cases h3 : t.size > 50
      · rw [cf h1, cf h2, ct (by omega), if_neg (by omega), if_pos h3, svB, if_pos (by simp)]
      · have hs := app_size (ofInts (b8 n)) t
        have h8 := b8_size n
        have hbig := big60
        rw [cf h1, cf h2, cf (by omega), if_neg (by omega), if_neg h3, text8, ct (by omega), makeR (by omega), svB]
        by_cases h4 : (mkR kind (ofInts (b8 n) ++ t)).2 = 0
        · rw [bnf h4, cond_false, if_neg (by simp [h4]), Int.tmod_eq_emod_of_nonneg hn.1, w64 (x := n % 2) (by omega) (by omega), w64 (x := x + n % 2) (by omega) (by omega), writeR h, wrB_eq]
          by_cases h5 : (wS (x + n % 2) (mkR kind (ofInts (b8 n) ++ t)).1 a b c l w).1 = 0
          · rw [if_pos h5, if_neg (by simp [h5]), flushR (by omega) (wS_ok h (by omega)), flB_eq, fl_app]
          · rw [if_neg h5, if_pos h5, bnt h5, cond_true]
        · rw [bnt h4, cond_true, if_pos h4]

/-! ### A load -/

/-- What a sector has. -/
def one (kind x : Int) (b : Bool) (l : List ByteArray) (w : WL) : Bool × Int × ByteArray × Int :=
  if (rd x b l w).2 ≠ 0 then (false, 0, ByteArray.empty, (rd x b l w).2)
  else if (opn kind (rd x b l w).1).2 ≠ 0 ∨ (opn kind (rd x b l w).1).1.size < 8 then (false, 0, ByteArray.empty, 0)
  else (true, num 0 ((toInts (opn kind (rd x b l w).1).1).take 8), (opn kind (rd x b l w).1).1.extract 8 (opn kind (rd x b l w).1).1.size, 0)

theorem one_none {kind x : Int} {b : Bool} {l : List ByteArray} {w : WL} (h : (one kind x b l w).1 = false) : (one kind x b l w).2.1 = 0 ∧ (one kind x b l w).2.2.1 = ByteArray.empty := by
  unfold one at h ⊢
  split
  · exact ⟨rfl, rfl⟩
  · split
    · exact ⟨rfl, rfl⟩
    · rename_i h1 h2
      rw [if_neg h1, if_neg h2] at h
      cases h

theorem oneP {β : Type} {m k : Nat} {x kind a c : Int} {b : Bool} {l : List ByteArray} {w : WL} (h : DS m k a c l w) {K : Bool → Int → ByteArray → Int → Option β} :
    f57_1 20000 x kind a b c l w K = K (one kind x b l w).1 (one kind x b l w).2.1 (one kind x b l w).2.2.1 (one kind x b l w).2.2.2 := by
  rw [f57_1, readP (by omega) h, one]
  by_cases h1 : (rd x b l w).2 = 0
  · rw [bnf h1, cond_false, openP, if_neg (by simp [h1]), f49_1]
    generalize ho : opn kind (rd x b l w).1 = o
    have hos : o.1.size ≤ 58 := by rw [← ho]; exact opn_size _ _
    have hl := toInts_size o.1
    rw [ct (by omega), List.nil_append]
    have hnum := fun K0 K1 => numP (β := β) (w := 8) (l := toInts o.1) (K0 := K0) (K1 := K1) (by omega) (by omega) (by omega) (toInts_r _)
    refine (hnum _ _).trans ?_
    by_cases h2 : o.2 = 0
    · by_cases h3 : 8 ≤ (toInts o.1).length
      · rw [if_pos h3, if_neg (by simp [h2]; omega), bnf h2, cond_false, f97_1, ct ⟨by omega, by omega, by omega⟩]
        rfl
      · rw [if_neg h3, if_pos (.inr (by omega)), bnf h2, cond_false, f97_1]
        rfl
    · rw [bnt h2, cond_true, cond_true, ite_self, if_pos (Or.inl h2)]
  · rw [bnt h1, cond_true, if_pos h1]

theorem oneR {β : Type} {m k : Nat} {x kind a c : Int} {b : Bool} {l : List ByteArray} {w : WL} (h : DS m k a c l w) {K : Bool → Int → ByteArray → Int → Option β} :
    f98_1 20000 x kind a b c l w K = K (one kind x b l w).1 (one kind x b l w).2.1 (one kind x b l w).2.2.1 (one kind x b l w).2.2.2 := by
  rw [f98_1, readR (by omega) h, one]
  by_cases h1 : (rd x b l w).2 = 0
  · rw [bnf h1, cond_false, openR, if_neg (by simp [h1])]
    generalize ho : opn kind (rd x b l w).1 = o
    have hos : o.1.size ≤ 58 := by rw [← ho]; exact opn_size _ _
    have hl := toInts_size o.1
    by_cases h2 : o.2 = 0
    · rw [bnf h2, cond_false]
      by_cases h3 : o.1.size < 8
      · rw [ct (by omega), if_pos (.inr h3)]
      · have hg := fun K => getR (β := β) (at_ := 0) (w := 8) (l := toInts o.1) (K := K) (by omega) (by omega) (by omega) (by omega) (toInts_r _)
        rw [cf (by omega), if_neg (by simp [h2]; omega)]
        refine (hg _).trans ?_
        rw [ct ⟨by omega, by omega, by omega⟩, gt, if_pos (by omega)]
        rfl
    · rw [bnt h2, cond_true, if_pos (.inl h2)]
  · rw [bnt h1, cond_true, if_pos h1]

/-- The later one of two. -/
def lat (p q : Bool × Int × ByteArray × Int) : Int × ByteArray × Int :=
  if p.2.2.2 ≠ 0 then (0, ByteArray.empty, p.2.2.2)
  else if q.2.2.2 ≠ 0 then (0, ByteArray.empty, q.2.2.2)
  else if p.1 = false ∧ q.1 = false then (0, ByteArray.empty, 10)
  else if p.1 = false ∨ (q.1 = true ∧ q.2.1 > p.2.1) then (q.2.1, q.2.2.1, 0)
  else (p.2.1, p.2.2.1, 0)

def ld (x kind : Int) (b : Bool) (l : List ByteArray) (w : WL) : Int × ByteArray × Int := lat (one kind (if 1200 < x then 1200 else x) b l w) (one kind ((if 1200 < x then 1200 else x) + 1) b l w)

theorem latP {β : Type} {p q : Bool × Int × ByteArray × Int} (hp : p.1 = false → p.2.1 = 0 ∧ p.2.2.1 = ByteArray.empty) (hq : q.1 = false → q.2.1 = 0 ∧ q.2.2.1 = ByteArray.empty) {K0 : Int → ByteArray → Int → Option β} :
    cond (p.2.2.2 != 0) (K0 0 ByteArray.empty p.2.2.2) (cond (q.2.2.2 != 0) (K0 0 ByteArray.empty q.2.2.2) (cond ((p.1 == false) && ((p.2.1 == 0) && (p.2.2.1.toList == ByteArray.empty.toList))) (cond ((q.1 == false) && ((q.2.1 == 0) && (q.2.2.1.toList == ByteArray.empty.toList))) (K0 0 ByteArray.empty 10) (cond (!p.1) (K0 q.2.1 q.2.2.1 0) (cond q.1 (cond (decide (q.2.1 > p.2.1)) (K0 q.2.1 q.2.2.1 0) (K0 p.2.1 p.2.2.1 0)) (K0 p.2.1 p.2.2.1 0)))) (cond (!p.1) (K0 q.2.1 q.2.2.1 0) (cond q.1 (cond (decide (q.2.1 > p.2.1)) (K0 q.2.1 q.2.2.1 0) (K0 p.2.1 p.2.2.1 0)) (K0 p.2.1 p.2.2.1 0))))) = K0 (lat p q).1 (lat p q).2.1 (lat p q).2.2 := by
  obtain ⟨p1, p2, p3, p4⟩ := p
  obtain ⟨q1, q2, q3, q4⟩ := q
  simp only [lat] at hp hq ⊢
  by_cases h1 : p4 = 0
  · subst h1
    by_cases h2 : q4 = 0
    · subst h2
      cases p1 with
      | false =>
        obtain ⟨rfl, rfl⟩ := hp rfl
        cases q1 with
        | false =>
          obtain ⟨rfl, rfl⟩ := hq rfl
          simp
        | true => simp
      | true =>
        cases q1 with
        | false => simp
        | true =>
          by_cases h3 : q2 > p2
          · simp [h3]
          · simp [h3]
    · rw [bnf rfl, cond_false, bnt h2, cond_true]; simp [h2]
  · rw [bnt h1, cond_true]; simp [h1]

theorem latR {β : Type} {p q : Bool × Int × ByteArray × Int} {K0 : Int → ByteArray → Int → Option β} :
    cond (p.2.2.2 != 0) (K0 0 ByteArray.empty p.2.2.2) (cond (q.2.2.2 != 0) (K0 0 ByteArray.empty q.2.2.2) (cond (!p.1) (cond (!q.1) (K0 0 ByteArray.empty 10) (cond (!p.1) (K0 q.2.1 q.2.2.1 0) (cond q.1 (cond (decide (q.2.1 > p.2.1)) (K0 q.2.1 q.2.2.1 0) (K0 p.2.1 p.2.2.1 0)) (K0 p.2.1 p.2.2.1 0)))) (cond (!p.1) (K0 q.2.1 q.2.2.1 0) (cond q.1 (cond (decide (q.2.1 > p.2.1)) (K0 q.2.1 q.2.2.1 0) (K0 p.2.1 p.2.2.1 0)) (K0 p.2.1 p.2.2.1 0))))) = K0 (lat p q).1 (lat p q).2.1 (lat p q).2.2 := by
  obtain ⟨p1, p2, p3, p4⟩ := p
  obtain ⟨q1, q2, q3, q4⟩ := q
  simp only [lat]
  by_cases h1 : p4 = 0
  · subst h1
    by_cases h2 : q4 = 0
    · subst h2
      cases p1 with
      | false => cases q1 <;> simp
      | true =>
        cases q1 with
        | false => simp
        | true =>
          by_cases h3 : q2 > p2
          · simp [h3]
          · simp [h3]
    · rw [bnf rfl, cond_false, bnt h2, cond_true]; simp [h2]
  · rw [bnt h1, cond_true]; simp [h1]

theorem loadP {β : Type} {m k : Nat} {x kind a c : Int} {b : Bool} {l : List ByteArray} {w : WL} (h : DS m k a c l w) (hx : -9223372036854775808 ≤ x) {K : Int → ByteArray → Int → Option β} :
    f27_1 20000 x kind a b c l w K = K (ld x kind b l w).1 (ld x kind b l w).2.1 (ld x kind b l w).2.2 := by
  have e : IntKind.i64.wrap ((if 1200 < x then 1200 else x) + 1) = (if 1200 < x then 1200 else x) + 1 := w64 (by split <;> omega) (by split <;> omega)
  rw [f27_1, oneP h, e]
  simp only [oneP h]
  exact latP one_none one_none

theorem one_out {kind x : Int} {b : Bool} {l : List ByteArray} {w : WL} (hx : ¬ (0 ≤ x ∧ x < (l.length : Int))) : one kind x b l w = (false, 0, ByteArray.empty, if b = true then 5 else 3) := by
  unfold one rd kp
  cases b <;> simp [hx]

theorem loadR {β : Type} {m k : Nat} {x kind a c : Int} {b : Bool} {l : List ByteArray} {w : WL} (h : DS m k a c l w) (hm : m ≤ 1200) (hx : -9223372036854775808 ≤ x) {K : Int → ByteArray → Int → Option β} :
    f58_1 20000 x kind a b c l w K = K (ld x kind b l w).1 (ld x kind b l w).2.1 (ld x kind b l w).2.2 := by
  have hl := h.len
  rw [f58_1, ld]
  by_cases h1 : x > 1200
  · rw [ct h1, if_pos h1, one_out (x := 1200) (by omega), oneR h, one_out (x := -1) (by omega)]
    cases b <;> rfl
  · rw [cf h1, if_neg h1, w64 (x := x + 1) (by omega) (by omega), oneR h]
    simp only [oneR h]
    exact latR

end Go.Proofs.YtillbabmlfjegaaDoor.X
end

section
/- The law: records in one of two sectors. -/
namespace Go.Proofs.YtillbabmlfjegaaDoor.X
open Go Go.Proofs.YtillbabmlfjegaaDoor.Ev
set_option linter.unusedSectionVars false
variable [FZ]
set_option linter.unusedVariables false
set_option linter.unusedSimpArgs false

abbrev AS := List (Int × (Int × (Int × (Int × (ByteArray × (Sl .bool))))))
def ASwf (l : AS) : Prop := ∀ x ∈ l, (Lit.int .i64 x.1).wf = true ∧ (Lit.int .i64 x.2.1).wf = true ∧ (Lit.int .i64 x.2.2.1).wf = true ∧ (Lit.int .u64 x.2.2.2.1).wf = true ∧ x.2.2.2.2.1.size ≤ maxLen ∧ (x.2.2.2.2.2.dat.length ≤ maxLen ∧ ∀ y ∈ x.2.2.2.2.2.dat, wfS .bool y)

set_option maxRecDepth 100000 in
theorem known09 {β : Type} {K : Bool → Option β} : f21_1 20000 K = K true := by kernel_rfl
theorem new6P {β : Type} {K0 : Option β} {K1 : List ByteArray → WL → Option β} : f22_1 20000 6 K0 K1 = K1 [Z64, Z64, Z64, Z64, Z64, Z64] [] := by kernel_rfl
theorem new6R {β : Type} {K0 : Option β} {K1 : List ByteArray → WL → Option β} : f28_1 20000 6 K0 K1 = K1 [Z64, Z64, Z64, Z64, Z64, Z64] [] := by kernel_rfl

theorem padl : ∀ (j k : Nat) (v : ByteArray), v.size ≤ 200 → 64 ≤ v.size + j → j < k → ∃ s : ByteArray, 64 ≤ s.size ∧ ∀ {β : Type} {K : ByteArray → Option β}, f60_1_l1 20000 K k v = K s
  | _, 0, _, _, _, h => by omega
  | j, k + 1, v, h200, hj, hk => by
    by_cases h : (v.size : Int) < 64
    · have e1 : (⟨#[0]⟩ : ByteArray).size = 1 := rfl
      have e2 := app_size v (⟨#[0]⟩ : ByteArray)
      obtain ⟨s, hs, hK⟩ := padl (j - 1) k (v ++ ⟨#[0]⟩) (by omega) (by omega) (by omega)
      refine ⟨s, hs, fun {β K} => ?_⟩
      rw [f60_1_l1, ct h, ct (by omega)]
      exact hK
    · refine ⟨v, by omega, fun {β K} => ?_⟩
      rw [f60_1_l1, cf h]

theorem padP {t : ByteArray} (h : t.size ≤ 200) : ∃ s : ByteArray, ∀ {β : Type} {K : ByteArray → Option β}, f60_1 20000 t K = K s := by
  obtain ⟨s, hs, hK⟩ := padl 64 20000 t h (by omega) (by omega)
  refine ⟨s.extract 0 64, fun {β K} => ?_⟩
  rw [f60_1, hK, ct ⟨by omega, by omega, by omega⟩]

/-- One act to both. -/
theorem doP {β : Type} {k : Nat} {kd x rc n a c : Int} {t : ByteArray} {ks : Sl .bool} {b : Bool} {l : List ByteArray} {w : WL} (h : DS 6 k a c l w) (hk : k < 298) (hx : -9223372036854775808 ≤ x ∧ x ≤ 9223372036854775807) (hn : 0 ≤ n ∧ n < 18446744073709551616) (ht : t.size ≤ 200) {r : Option β}
    {K0 : Bool → Int → Bool → Int → Int → Bool → Int → Option β} {K1 K2 : Bool → Int → Bool → Int → Int → Bool → Int → List ByteArray → WL → Option β} {K3 : Bool → Int → Bool → Int → List ByteArray → Int → Bool → Int → WL → Option β}
    {K4 K5 : Bool → Int → Bool → Int → List ByteArray → Int → Bool → Int → List ByteArray → WL → WL → Option β} {K6 : Bool → Int → Bool → Int → List ByteArray → Int → Bool → Int → WL → Option β}
    {K7 K8 : Bool → Int → Bool → Int → List ByteArray → Int → Bool → Int → List ByteArray → WL → WL → Option β}
    (h0 : ∀ a' b' c', DS 6 (k + 2) a' c' l w → K0 true a' b' c' a' b' c' = r)
    (h4 : ∀ a' b' c' l' w', DS 6 (k + 2) a' c' l' w' → K4 true a' b' c' l' a' b' c' l' w' w' = r)
    (h8 : ∀ a' b' c' l' w', DS 6 (k + 2) a' c' l' w' → K8 true a' b' c' l' a' b' c' l' w' w' = r) :
    f29_1 20000 kd x rc n t ks a b c l w a b c l w K0 K1 K2 K3 K4 K5 K6 K7 K8 = r := by
  rw [f29_1]
  simp only [amb_self]
  have hself : ∀ z : Int, (z == z) = true := fun z => by simp
  have e2 : ∀ s : ByteArray, (s.toList == s.toList) = true := fun s => by simp
  cases (kd.tmod 5 == 0) with
  | true =>
    rw [cond_true, loadP h hx.1, loadR h (by omega) hx.1, hself, cond_true, e2, cond_true, hself]
    exact h0 _ _ _ ((h.more (by omega)).more (by omega))
  | false =>
    rw [cond_false]
    cases (kd.tmod 5 == 1) with
    | true =>
      rw [cond_true, saveP h (by omega) hn, svB]
      by_cases q1 : (svE x rc n t).1 = 0
      · rw [if_neg (by simp [q1])]
        by_cases q2 : (wS (x + n % 2) (svE x rc n t).2 a b c l w).1 = 0
        · rw [if_neg (by simp [q2]), app, saveR h (by omega) hn, svB, if_neg (by simp [q1]), if_neg (by simp [q2]), app, hself]
          exact h8 _ _ _ _ _ (fS_ok (wS_ok h (by omega)) (by omega))
        · rw [if_pos (by simp [q2]), saveR h (by omega) hn, svB, if_neg (by simp [q1]), if_pos (by simp [q2]), hself]
          have h1 := wS_ok (x := x + n % 2) (t := (svE x rc n t).2) (b := b) h (by omega)
          rw [wS_same q2] at h1
          exact h0 _ _ _ (h1.more (by omega))
      · rw [if_pos (by simp [q1]), saveR h (by omega) hn, svB, if_pos (by simp [q1]), hself]
        exact h0 _ _ _ ((h.more (by omega)).more (by omega))
    | false =>
      rw [cond_false]
      cases (kd.tmod 5 == 2) with
      | true =>
        obtain ⟨s, hs⟩ := padP ht
        rw [cond_true, hs, writeP h, wrB_eq]
        by_cases q2 : (wS x s a b c l w).1 = 0
        · rw [if_pos q2, hs, writeR h, wrB_eq, if_pos q2]
          exact h8 _ _ _ _ _ ((wS_ok h (by omega)).more (by omega))
        · rw [if_neg q2, hs, writeR h, wrB_eq, if_neg q2, hself]
          have h1 := wS_ok (x := x) (t := s) (b := b) h (by omega)
          rw [wS_same q2] at h1
          exact h0 _ _ _ (h1.more (by omega))
      | false =>
        rw [cond_false]
        cases (kd.tmod 5 == 3) with
        | true =>
          rw [cond_true, crashP (by omega) h, crashR (by omega) h, f26_1, Bool.not_true, cond_false, f63_1, Bool.not_true, cond_false]
          exact h4 _ _ _ _ _ ((h.crashed (by omega) ks.dat).came (by omega))
        | false =>
          rw [cond_false, f24_1, f64_1]
          have hf := (h.fuse (by omega) hx.2).more (by omega)
          first
            | exact h0 _ _ _ hf
            | (have e : (if x > -1 then x else -1) = (if (-1) > x then (-1) else x) := by split <;> split <;> omega
               rw [e]; exact h0 _ _ _ hf)
            | (have e : (if x < -1 then -1 else x) = (if (-1) > x then (-1) else x) := by split <;> split <;> omega
               rw [e]; exact h0 _ _ _ hf)

theorem playl {β : Type} {acts : AS} (hw : ASwf acts) {K0 K1 K2 K3 K4 K5 K6 K7 K8 K9} {r0 : Option β} (h0 : ∀ a b c l w, K0 true a b c l w a b c l w = r0) (h9 : ∀ a b c l w, DS 6 120 a c l w → K9 a b c l w a b c l w = r0) : ∀ (j i k : Nat) {a c : Int} {b : Bool} {l : List ByteArray} {w : WL}, j + i = 60 → j < k → DS 6 (2 * i) a c l w →
    f8_1_l4_4 20000 acts K0 K1 K2 K3 K4 K5 K6 K7 K8 K9 k (i : Int) a b c l w a b c l w = r0
  | _, _, 0, _, _, _, _, _, _, hk, _ => by omega
  | j, i, k + 1, a, c, b, l, w, hi, hk, h => by
    rw [f8_1_l4_4]
    have hend : K9 a b c l w a b c l w = r0 := h9 _ _ _ _ _ ⟨h.n40, by omega, h.len, by have := h.wl; omega, h.wb, h.ar, by have := h.cr; omega⟩
    by_cases hl : (i : Int) < ((acts.length : Nat) : Int)
    · rw [ct hl]
      by_cases h60 : (i : Int) < 60
      · obtain ⟨j, rfl⟩ : ∃ m, j = m + 1 := ⟨j - 1, by omega⟩
        rw [ct h60, ct (by omega), ct (by omega)]
        have hil : i < acts.length := by omega
        have hg : acts.getD (0 + (i : Int).toNat) ((0, (0, (0, (0, (ByteArray.empty, (Sl.nil .bool)))))) : Int × (Int × (Int × (Int × (ByteArray × (Sl .bool)))))) = acts[i] := by simp [hil]
        rw [hg]
        have hm := hw _ (List.getElem_mem hil)
        by_cases h200 : ((acts[i].2.2.2.2.1.size : Nat) : Int) > 200
        · rw [ct h200, known09]; exact h0 _ _ _ _ _
        · rw [cf h200, ct (by omega), ct (by omega)]
          refine doP h (by omega) (i64_of_wf hm.2.1) (u64_of_wf hm.2.2.2.1) (by omega) ?_ ?_ ?_
          · intro a' b' c' hd
            rw [Bool.not_true, cond_false, w64 (by omega) (by omega)]
            exact playl hw h0 h9 j (i + 1) k (by omega) (by omega) hd
          · intro a' b' c' l' w' hd
            rw [Bool.not_true, cond_false, w64 (by omega) (by omega)]
            exact playl hw h0 h9 j (i + 1) k (by omega) (by omega) hd
          · intro a' b' c' l' w' hd
            rw [Bool.not_true, cond_false, w64 (by omega) (by omega)]
            exact playl hw h0 h9 j (i + 1) k (by omega) (by omega) hd
      · rw [cf h60]; exact hend
    · rw [cf hl]; exact hend

theorem keptl {β : Type} {acts : AS} {a c : Int} {b : Bool} {l : List ByteArray} {w : WL} {K0 K1 : Option β} : ∀ (j i k : Nat), j + i = 6 → j < k → f8_1_l11_4 20000 acts a b c l w a b c l w K0 K1 k (i : Int) = K1
  | _, _, 0, _, h => by omega
  | 0, i, k + 1, hi, _ => by rw [f8_1_l11_4, cf (by omega)]
  | j + 1, i, k + 1, hi, hk => by
    have e2 : ∀ s : ByteArray, (s.toList == s.toList) = true := fun s => by simp
    rw [f8_1_l11_4, ct (by omega), keptP, keptR, e2, Bool.not_true, cond_false, bnf rfl, cond_false, w64 (by omega) (by omega)]
    exact keptl j (i + 1) k (by omega) (by omega)

theorem law_true {β : Type} (acts : AS) {q : Prop} (_ : q) (hw : ASwf acts) (r : β) : ∃ F, f8_1 F acts (fun b => cond b (some r) none) = some r := by
  refine ⟨20000, ?_⟩
  rw [f8_1, new6P]
  simp only [new6R]
  refine playl hw (fun _ _ _ _ _ => rfl) (fun a b c l w hd => ?_) 60 0 20000 (by omega) (by omega) ⟨by omega, by omega, rfl, by simp, fun p hp => (by cases hp), by omega, by omega⟩
  refine (keptl 6 0 20000 (by omega) (by omega)).trans ?_
  rw [f32_1, beq_self_eq_true, cond_true, known09]
  rfl

end Go.Proofs.YtillbabmlfjegaaDoor.X
end
