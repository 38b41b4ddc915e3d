/- Merged: UndoA, UndoB, EvF138, EvF137, EvF70, EvF184, EvF139, EvF71, EvF67, EvF72, CowD, CowE, EvF141, EvF79, EvF80, EvF82, UndoC, RollN, DiskV, LogA, LogB, EvF17, DiskW, EvF13, EvF18, PlayA, PureRollBack. -/
import Derived.Test.YtlgopekjjkdkiaaGreatDoorMRollBackCard5
import Derived.Test.YtlgopekjjkdkiaaGreatDoorMRollBackCard4
import Derived.Test.YtlgopekjjkdkiaaGreatDoorMRollBackCard3
import Derived.Test.YtlgopekjjkdkiaaGreatDoorProg
import Derived.KernelRfl
section
namespace Go.Proofs.YtlgopekjjkdkiaaGreatDoor.X
open Go Go.Proofs.YtlgopekjjkdkiaaGreatDoor.Ev
set_option linter.unusedSectionVars false
set_option linter.unusedVariables false
set_option linter.unusedSimpArgs false
section
variable [FZ]
theorem putL8 {β : Type} {n : Int} {v l : List Int} {k : Nat} {K : List Int → Option β} (hl : l.length ≤ 1000) : f147_1_l6 20000 n v K (k + 1 + 1 + 1 + 1 + 1 + 1 + 1 + 1 + 1) 56 l = K (l ++ b8 n) := by
  rw [putS (by omega) (by omega), putS (by omega) (by simp; omega), putS (by omega) (by simp; omega), putS (by omega) (by simp; omega), putS (by omega) (by simp; omega), putS (by omega) (by simp; omega), putS (by omega) (by simp; omega), putS (by omega) (by simp; omega)]
  refine putE.trans ?_
  congr 1
  simp [b8]
theorem putA8 {β : Type} {n : Int} {l : List Int} {K : List Int → Option β} (hl : l.length ≤ 1000) : f147_1 20000 8 n l K = K (l ++ b8 n) := by
  rw [f147_1, w64 (x := ((l.length : Nat) : Int) + 8) (by omega) (by omega), ct ⟨by omega, by omega, by omega, by omega⟩, ct (by omega), f190_1, ct (by omega), decide_eq_true (show (8 : Int) ≤ 8 by omega), cond_ff', List.take_zero, List.nil_append]
  exact putL8 (k := 19991) (K := fun x => K x) hl
def uhL (t e k p s : Int) : List Int := b8 t ++ (b8 e ++ (b4 k ++ (b4 p ++ b4 s)))
def uhB (t e k p s : Int) : ByteArray := mkB 7 (ofInts (uhL t e k p s))
theorem uhL_len (t e k p s : Int) : (uhL t e k p s).length = 28 := rfl
theorem uhL_r (t e k p s : Int) : byts (uhL t e k p s) := app_r (b8_r t) (app_r (b8_r e) (app_r (b4_r k) (app_r (b4_r p) (b4_r s))))
theorem uhB_size (t e k p s : Int) : (uhB t e k p s).size = 64 := mkB_size (by rw [oi_size, uhL_len]; omega)
theorem headS {β : Type} {v l : List Int} {i k : Nat} {x : Int} {K : List Int → Option β} (hi : i < 3) (hv : v.length = 3) (hx : v.getD i 0 = x) (h : U64 x) (hl : l.length ≤ 900) :
    f95_1_l4 20000 3 v K (k + 1) (i : Int) l = f95_1_l4 20000 3 v K k ((i + 1 : Nat) : Int) (l ++ b4 x) := by
  rw [f95_1_l4, ct (by omega), ct (by omega), ct (by omega), show 0 + (i : Int).toNat = i by omega, hx, wu64 h.1 h.2, putA4 (by omega), w64 (by omega) (by omega)]
  push_cast; rfl
theorem headP {β : Type} {t e k p : Int} {old : ByteArray} (hk : U32 k) (hp : U32 p) (ho : old.size ≤ 100) {K : ByteArray → Option β} : f95_1 20000 k t e p old K = K (ofInts (uhL t e k p (crc (toInts old)))) := by
  have htl := toInts_size old
  have hcr := crc_r (toInts old)
  have h8 : ∀ n, (b8 n).length = 8 := fun _ => rfl
  have h4 : ∀ n, (b4 n).length = 4 := fun _ => rfl
  rw [f95_1, put8, putA8 (by simp [h8]), crcP (by omega), wu32 hk.1 hk.2, wu32 hp.1 hp.2]
  refine (headS (i := 0) (k := 19999) (x := k) (by omega) rfl rfl ⟨hk.1, by omega⟩ (by simp [h8])).trans ?_
  refine (headS (i := 1) (k := 19998) (x := p) (by omega) rfl rfl ⟨hp.1, by omega⟩ (by simp [h8, h4])).trans ?_
  refine (headS (i := 2) (k := 19997) (x := crc (toInts old)) (by omega) rfl rfl ⟨hcr.1, by omega⟩ (by simp [h8, h4])).trans ?_
  show f95_1_l4 20000 3 _ _ (19996 + 1) 3 _ = _
  rw [f95_1_l4, cf (by omega)]
  simp only [uhL, List.append_assoc]
def h1 (L : List Int) : Int := num 0 (L.take 8)
def h2 (L : List Int) : Int := num 0 ((L.drop 8).take 8)
def h3 (L : List Int) : Int := num 0 (((L.drop 8).drop 8).take 4)
def h4 (L : List Int) : Int := num 0 ((((L.drop 8).drop 8).drop 4).take 4)
def h5 (L : List Int) : Int := num 0 (((((L.drop 8).drop 8).drop 4).drop 4).take 4)
theorem h_hd {t e k p s : Int} (ht : U64 t) (he : U64 e) (hk : U32 k) (hp : U32 p) (hs : U32 s) : h1 (uhL t e k p s) = t ∧ h2 (uhL t e k p s) = e ∧ h3 (uhL t e k p s) = k ∧ h4 (uhL t e k p s) = p ∧ h5 (uhL t e k p s) = s := by
  have d0 : (uhL t e k p s).drop 8 = b8 e ++ (b4 k ++ (b4 p ++ b4 s)) := List.drop_left' (l₁ := b8 t) rfl
  have d1 : (b8 e ++ (b4 k ++ (b4 p ++ b4 s))).drop 8 = b4 k ++ (b4 p ++ b4 s) := List.drop_left' (l₁ := b8 e) rfl
  have d2 : (b4 k ++ (b4 p ++ b4 s)).drop 4 = b4 p ++ b4 s := List.drop_left' rfl
  have d3 : (b4 p ++ b4 s).drop 4 = b4 s := List.drop_left' rfl
  have t0 : (uhL t e k p s).take 8 = b8 t := List.take_left' (l₁ := b8 t) rfl
  have t1 : (b8 e ++ (b4 k ++ (b4 p ++ b4 s))).take 8 = b8 e := List.take_left' (l₁ := b8 e) rfl
  have t2 : (b4 k ++ (b4 p ++ b4 s)).take 4 = b4 k := List.take_left' rfl
  have t3 : (b4 p ++ b4 s).take 4 = b4 p := List.take_left' rfl
  have t4 : (b4 s).take 4 = b4 s := rfl
  refine ⟨?_, ?_, ?_, ?_, ?_⟩
  · rw [h1, t0, num8 ht]
  · rw [h2, d0, t1, num8 he]
  · rw [h3, d0, d1, t2, num_b4 hk]
  · rw [h4, d0, d1, d2, t3, num_b4 hp]
  · rw [h5, d0, d1, d2, d3, t4, num_b4 hs]
theorem h_r {L : List Int} (hb : byts L) (hl : L.length = 28) : U64 (h1 L) ∧ U64 (h2 L) ∧ U32 (h3 L) ∧ U32 (h4 L) ∧ U32 (h5 L) :=
  ⟨(num8_inv (by simp; omega) (take_r 8 hb)).2, (num8_inv (by simp; omega) (take_r 8 (drop_r 8 hb))).2, (num4_inv (by simp; omega) (take_r 4 (drop_r 8 (drop_r 8 hb)))).2, (num4_inv (by simp; omega) (take_r 4 (drop_r 4 (drop_r 8 (drop_r 8 hb))))).2, (num4_inv (by simp; omega) (take_r 4 (drop_r 4 (drop_r 4 (drop_r 8 (drop_r 8 hb)))))).2⟩
def isU (s : ByteArray) : Prop := (opn 7 s).2 = 0 ∧ (opn 7 s).1.size = 28
instance (s : ByteArray) : Decidable (isU s) := by unfold isU; infer_instance
def mayb (n f c u p : Int) : Bool := decide (6 ≤ p ∧ p < 6 + n + nodes n f c u)
theorem mayP {β : Type} {n f c u p : Int} (hr : rt n f c u) {K : Bool → Option β} : f91_1 20000 n f c u p K = K (mayb n f c u p) := by
  have hn := hr.1
  have hno := nodes_ok n f c u
  rw [f91_1, mayb]
  by_cases h : p ≥ 6
  · rw [ct h, nodes50, w64 (x := 6 + n) (by omega) (by omega), w64 (by omega) (by omega)]
    congr 1
    exact decide_eq_decide.2 ⟨fun hh => ⟨h, hh⟩, fun hh => hh.2⟩
  · rw [cf h, decide_eq_false (fun hh => h hh.1)]
theorem uareaP {β : Type} {n f c u k : Int} (hr : rt n f c u) (hk : 0 ≤ k ∧ k < u) {K : Int → Int → Option β} : f92_1 20000 n f c u k K = K (6 + n + nodes n f c u + 2 * k) (6 + n + nodes n f c u + (2 * k + 1)) := by
  have hu := hr.2.2.2
  rw [f92_1, w64 (x := 2 * k) (by omega) (by omega), w64 (x := 2 * k + 1) (by omega) (by omega), areaP (.inr rfl), areaP (.inr rfl), if_neg (by omega), are, are, if_pos (show rt n f c u ∧ 0 ≤ 2 * k ∧ 2 * k < 2 * u from ⟨hr, by omega, by omega⟩), if_pos (show rt n f c u ∧ 0 ≤ 2 * k + 1 ∧ 2 * k + 1 < 2 * u from ⟨hr, by omega, by omega⟩)]
theorem layP {β : Type} {m q : Nat} {x a d : Int} {t : ByteArray} {b : Bool} {l : List ByteArray} {w : WL} (h : DS m q a d l w) (hq : q < 5999) {K : Int → Int → Bool → Int → List ByteArray → WL → Option β} :
    f93_1 20000 x t a b d l w K = app K (svS x t a b d l w) := by
  rw [f93_1]
  exact svS_P (K := K) h hq
def unS (n f c u k t e p a : Int) (b : Bool) (d : Int) (l : List ByteArray) (w : WL) : Int × Int × Int × ByteArray × St :=
  if ¬ rt n f c u then (0, 0, 0, ByteArray.empty, 12, a, b, d, l, w)
  else if k < 0 ∨ k ≥ u then (0, 0, 0, ByteArray.empty, 11, a, b, d, l, w)
  else if mayb n f c u p = false then (0, 0, 0, ByteArray.empty, 3, a, b, d, l, w)
  else if (rd p b l w).2 ≠ 0 then (0, 0, 0, ByteArray.empty, (rd p b l w).2, a, b, d, l, w)
  else if (svS (6 + n + nodes n f c u + (2 * k + 1)) (rd p b l w).1 a b d l w).1 ≠ 0 then (0, 0, 0, ByteArray.empty, svS (6 + n + nodes n f c u + (2 * k + 1)) (rd p b l w).1 a b d l w)
  else let s1 := svS (6 + n + nodes n f c u + (2 * k + 1)) (rd p b l w).1 a b d l w
    let s2 := svS (6 + n + nodes n f c u + 2 * k) (uhB t e k p (crc (toInts (rd p b l w).1))) s1.2.1 s1.2.2.1 s1.2.2.2.1 s1.2.2.2.2.1 s1.2.2.2.2.2
    if s2.1 ≠ 0 then (0, 0, 0, ByteArray.empty, s2) else (t, e, p, (rd p b l w).1, s2)
def app10 {β : Type} (K : Int → Int → Int → ByteArray → Int → Int → Bool → Int → List ByteArray → WL → Option β) (s : Int × Int × Int × ByteArray × St) : Option β :=
  K s.1 s.2.1 s.2.2.1 s.2.2.2.1 s.2.2.2.2.1 s.2.2.2.2.2.1 s.2.2.2.2.2.2.1 s.2.2.2.2.2.2.2.1 s.2.2.2.2.2.2.2.2.1 s.2.2.2.2.2.2.2.2.2
theorem unP {β : Type} {m q : Nat} {n f c u k t e p a d : Int} {b : Bool} {l : List ByteArray} {w : WL} (h : DS m q a d l w) (hq : q < 5990) (h64 : (rd p b l w).1.size ≤ 100) {K : Int → Int → Int → ByteArray → Int → Int → Bool → Int → List ByteArray → WL → Option β} :
    f31_1 20000 n f c u k t e p a b d l w K = app10 K (unS n f c u k t e p a b d l w) := by
  rw [f31_1, right46, unS]
  by_cases hr : rt n f c u
  · have hn := hr.1
    have hu := hr.2.2.2
    have hno := nodes_ok n f c u
    rw [decide_eq_true hr, Bool.not_true, cond_false, if_neg (fun hh => hh hr)]
    by_cases h1 : k < 0
    · rw [ct h1, if_pos (Or.inl h1)]; rfl
    · by_cases h2 : k ≥ u
      · rw [cf h1, ct h2, if_pos (Or.inr h2)]; rfl
      · rw [cf h1, cf h2, if_neg (show ¬ (k < 0 ∨ k ≥ u) by omega), mayP hr]
        by_cases h3 : mayb n f c u p = true
        · have h3' : 6 ≤ p ∧ p < 6 + n + nodes n f c u := of_decide_eq_true h3
          rw [h3, Bool.not_true, cond_false, if_neg (show ¬ (true = false) by simp), readP (by omega) h]
          by_cases h4 : (rd p b l w).2 = 0
          · have hcr := crc_r (toInts (rd p b l w).1)
            have htl := toInts_size (rd p b l w).1
            rw [bnf h4, cond_false, if_neg (fun hh => hh h4), uareaP hr (by omega), layP h (by omega), app]
            generalize hs1 : svS (6 + n + nodes n f c u + (2 * k + 1)) (rd p b l w).1 a b d l w = s1
            have h' := svS_ok (x := 6 + n + nodes n f c u + (2 * k + 1)) (t := (rd p b l w).1) (b := b) h (by omega)
            rw [hs1] at h'
            by_cases h5 : s1.1 = 0
            · have hmk : mkR 7 (ofInts (uhL t e k p (crc (toInts (rd p b l w).1)))) = (uhB t e k p (crc (toInts (rd p b l w).1)), 0) := by rw [mkR, if_neg (by omega), if_neg (by rw [oi_size, uhL_len]; omega)]; rfl
              have hbig := big60
              rw [bnf h5, cond_false, if_neg (fun hh => hh h5), headP (by omega) (by omega) h64, makeP (by rw [oi_size, uhL_len]; omega), hmk, bnf rfl, cond_false, layP h' (by omega), app]
              by_cases h6 : (svS (6 + n + nodes n f c u + 2 * k) (uhB t e k p (crc (toInts (rd p b l w).1))) s1.2.1 s1.2.2.1 s1.2.2.2.1 s1.2.2.2.2.1 s1.2.2.2.2.2).1 = 0
              · rw [bnf h6, cond_false]
                show _ = app10 K (if _ then _ else _)
                rw [if_neg (fun hh => hh h6), app10]
                simp only
                rw [h6]
              · rw [bnt h6, cond_true]
                show _ = app10 K (if _ then _ else _)
                rw [if_pos h6]; rfl
            · rw [bnt h5, cond_true, if_pos h5]; rfl
          · rw [bnt h4, cond_true, if_pos h4]; rfl
        · have h3 : mayb n f c u p = false := by simpa using h3
          rw [h3, Bool.not_false, cond_true, if_pos rfl]; rfl
  · rw [decide_eq_false hr, Bool.not_false, cond_true, if_pos hr]; rfl
def okU (n f c u e : Int) (k : Nat) (s : ByteArray) (t1 e1 : Int) : Prop :=
  isU s ∧ h3 (toInts (opn 7 s).1) = (k : Int) ∧ mayb n f c u (h4 (toInts (opn 7 s).1)) = true ∧ e < h2 (toInts (opn 7 s).1) ∧ (0 < k → h1 (toInts (opn 7 s).1) = t1 ∧ h2 (toInts (opn 7 s).1) = e1)
instance (n f c u e : Int) (k : Nat) (s : ByteArray) (t1 e1 : Int) : Decidable (okU n f c u e k s t1 e1) := by unfold okU; infer_instance
def rdV (n f c u e : Int) (k : Nat) (t1 e1 : Int) (s1 s2 : ByteArray × Int) : Int × Int × Int × ByteArray × Bool × Int :=
  if ¬ okU n f c u e k s1.1 t1 e1 then (0, 0, 0, ByteArray.empty, false, 0)
  else (h1 (toInts (opn 7 s1.1).1), h2 (toInts (opn 7 s1.1).1), h4 (toInts (opn 7 s1.1).1), s2.1, (if s2.2 = 0 then decide (crc (toInts s2.1) = h5 (toInts (opn 7 s1.1).1)) else false), s2.2)
def rdU (n f c u e : Int) (k : Nat) (t1 e1 : Int) (b : Bool) (l : List ByteArray) (w : WL) : Int × Int × Int × ByteArray × Bool × Int :=
  if (rd (6 + n + nodes n f c u + 2 * (k : Int)) b l w).2 ≠ 0 then (0, 0, 0, ByteArray.empty, false, (rd (6 + n + nodes n f c u + 2 * (k : Int)) b l w).2)
  else rdV n f c u e k t1 e1 (rd (6 + n + nodes n f c u + 2 * (k : Int)) b l w) (rd (6 + n + nodes n f c u + (2 * (k : Int) + 1)) b l w)
def app6 {β : Type} (K : Int → Int → Int → ByteArray → Bool → Int → Option β) (s : Int × Int × Int × ByteArray × Bool × Int) : Option β := K s.1 s.2.1 s.2.2.1 s.2.2.2.1 s.2.2.2.2.1 s.2.2.2.2.2
theorem readU {β : Type} {q p : Nat} {n f c u e a d t1 e1 p1 : Int} {o1 : ByteArray} {k : Nat} {b : Bool} {l : List ByteArray} {w : WL} (hr : rt n f c u) (h : DS q p a d l w) (hsz : ∀ x, (rd x b l w).1.size ≤ 100) (hk : (k : Int) < u) {K : Int → Int → Int → ByteArray → Bool → Int → Option β} :
    f150_1 20000 n f c u (k : Int) e t1 e1 p1 o1 a b d l w K = app6 K (rdU n f c u e k t1 e1 b l w) := by
  have hu := hr.2.2.2
  have hno := nodes_ok n f c u
  have hsz2 := hsz (6 + n + nodes n f c u + (2 * (k : Int) + 1))
  rw [f150_1, uareaP hr (by omega), readP (by omega) h, rdU]
  have hrd : ∀ K : ByteArray → Int → Option β, f37_1 20000 (6 + n + nodes n f c u + (2 * (k : Int) + 1)) a b d l w K = K (rd (6 + n + nodes n f c u + (2 * (k : Int) + 1)) b l w).1 (rd (6 + n + nodes n f c u + (2 * (k : Int) + 1)) b l w).2 := fun K => readP (by omega) h
  generalize rd (6 + n + nodes n f c u + (2 * (k : Int) + 1)) b l w = s2 at hsz2 hrd
  generalize rd (6 + n + nodes n f c u + 2 * (k : Int)) b l w = s1
  by_cases q1 : s1.2 = 0
  · rw [bnf q1, cond_false, if_neg (fun hh => hh q1), openP]
    have no : ¬ okU n f c u e k s1.1 t1 e1 → app6 K (rdV n f c u e k t1 e1 s1 s2) = K 0 0 0 ByteArray.empty false 0 := fun hh => by rw [rdV, if_pos hh]; rfl
    have fin : okU n f c u e k s1.1 t1 e1 → cond (s2.2 == 0) (f148_1 20000 (toInts s2.1) (fun x27 => K (h1 (toInts (opn 7 s1.1).1)) (h2 (toInts (opn 7 s1.1).1)) (h4 (toInts (opn 7 s1.1).1)) s2.1 (x27 == h5 (toInts (opn 7 s1.1).1)) s2.2)) (K (h1 (toInts (opn 7 s1.1).1)) (h2 (toInts (opn 7 s1.1).1)) (h4 (toInts (opn 7 s1.1).1)) s2.1 false s2.2) = app6 K (rdV n f c u e k t1 e1 s1 s2) := by
      intro hh
      have htl := toInts_size s2.1
      rw [rdV, if_neg (fun h' => h' hh), crcP (by omega)]
      generalize h5 (toInts (opn 7 s1.1).1) = g5
      by_cases z5 : s2.2 = 0
      · rw [show (s2.2 == 0) = true by simp [z5], cond_true, app6, if_pos z5]
        by_cases z6 : crc (toInts s2.1) = g5
        · rw [show (crc (toInts s2.1) == g5) = true by simp [z6], decide_eq_true z6]
        · rw [show (crc (toInts s2.1) == g5) = false by simp [z6], decide_eq_false z6]
      · rw [show (s2.2 == 0) = false by simp [z5], cond_false, app6, if_neg z5]
    generalize app6 K (rdV n f c u e k t1 e1 s1 s2) = X at no fin ⊢
    unfold okU at no fin
    by_cases q2 : (opn 7 s1.1).2 = 0
    · by_cases q3 : (opn 7 s1.1).1.size = 28
      · have hL : (toInts (opn 7 s1.1).1).length = 28 := by rw [toInts_size]; exact q3
        have hb := toInts_r (opn 7 s1.1).1
        obtain ⟨r1, r2, r3, r4, r5⟩ := h_r hb hL
        rw [bnf q2, cond_false, bnf (show ((opn 7 s1.1).1.size : Int) = 28 by omega), cond_false, f180_1, ct (by omega), List.nil_append]
        refine (numOK (w := 8) (by omega) (by omega) (by omega) (by omega) hb _).trans ?_
        refine (numOK (w := 8) (by omega) (by omega) (by simp; omega) (by simp; omega) (drop_r 8 hb) _).trans ?_
        refine (numOK (w := 4) (by omega) (by omega) (by simp; omega) (by simp; omega) (drop_r 8 (drop_r 8 hb)) _).trans ?_
        refine (numOK (w := 4) (by omega) (by omega) (by simp; omega) (by simp; omega) (drop_r 4 (drop_r 8 (drop_r 8 hb))) _).trans ?_
        refine (numOK (w := 4) (by omega) (by omega) (by simp; omega) (by simp; omega) (drop_r 4 (drop_r 4 (drop_r 8 (drop_r 8 hb)))) _).trans ?_
        rw [← h1, ← h2, ← h3, ← h4, ← h5]
        generalize toInts (opn 7 s1.1).1 = L at no fin r1 r2 r3 r4 r5 ⊢
        rw [w64 (x := h4 L) (by omega) (by omega), wu64 (x := (k : Int)) (by omega) (by omega), wu32 r5.1 r5.2]
        have lin : ∀ R : Option β, (h3 L = (k : Int) → mayb n f c u (h4 L) = true → e < h2 L → R = X) → cond (h3 L != (k : Int)) (K 0 0 0 ByteArray.empty false 0) (f91_1 20000 n f c u (h4 L) (fun x => cond (!x) (K 0 0 0 ByteArray.empty false 0) (cond (decide (h2 L ≤ e)) (K 0 0 0 ByteArray.empty false 0) R))) = X := by
          intro R hR
          by_cases z1 : h3 L = (k : Int)
          · rw [bnf z1, cond_false, mayP hr]
            by_cases z2 : mayb n f c u (h4 L) = true
            · rw [z2, Bool.not_true, cond_false]
              by_cases z3 : h2 L ≤ e
              · rw [ct z3, no (fun hh => by have := hh.2.2.2.1; omega)]
              · rw [cf z3]; exact hR z1 z2 (by omega)
            · have z2' : mayb n f c u (h4 L) = false := by simpa using z2
              rw [no (fun hh => z2 hh.2.2.1), z2', Bool.not_false, cond_true]
          · rw [no (fun hh => z1 hh.2.1), bnt z1, cond_true]
        by_cases z0 : (k : Int) > 0
        · rw [ct z0]
          by_cases z4 : h1 L = t1
          · rw [bnf z4, cond_false]
            refine lin _ (fun z1 z2 z3 => ?_)
            by_cases z5 : h2 L = e1
            · rw [bnf z5, cond_false, hrd]
              exact fin ⟨⟨q2, q3⟩, z1, z2, by omega, fun _ => ⟨z4, z5⟩⟩
            · rw [bnt z5, cond_true, no (fun hh => z5 (hh.2.2.2.2 (by omega)).2)]
          · rw [bnt z4, cond_true]
            exact lin _ (fun z1 z2 z3 => (no (fun hh => z4 (hh.2.2.2.2 (by omega)).1)).symm)
        · rw [cf z0]
          refine lin _ (fun z1 z2 z3 => ?_)
          rw [hrd]
          exact fin ⟨⟨q2, q3⟩, z1, z2, by omega, fun hh => by omega⟩
      · rw [no (fun hh => q3 hh.1.2), bnf q2, cond_false, bnt (show ¬ ((opn 7 s1.1).1.size : Int) = 28 by omega), cond_true]
    · rw [no (fun hh => q2 hh.1.1), bnt q2, cond_true]
  · rw [bnt q1, cond_true, if_pos q1]; rfl
end
section
variable [FZ]
abbrev E0 : Int × (Int × (Int × ByteArray)) := (0, (0, (0, ByteArray.empty)))
def usc (n f c u e : Int) (b : Bool) (l : List ByteArray) (w : WL) : Nat → Nat → EL → Int × EL
  | 0, _, out => (0, out)
  | m + 1, k, out =>
    if (rd (6 + n + nodes n f c u + 2 * (k : Int)) b l w).2 ≠ 0 then ((rd (6 + n + nodes n f c u + 2 * (k : Int)) b l w).2, [])
    else if ¬ okU n f c u e k (rd (6 + n + nodes n f c u + 2 * (k : Int)) b l w).1 (out.getD 0 E0).1 (out.getD 0 E0).2.1 then (0, out)
    else if (rd (6 + n + nodes n f c u + (2 * (k : Int) + 1)) b l w).2 ≠ 0 then ((rd (6 + n + nodes n f c u + (2 * (k : Int) + 1)) b l w).2, [])
    else if crc (toInts (rd (6 + n + nodes n f c u + (2 * (k : Int) + 1)) b l w).1) ≠ h5 (toInts (opn 7 (rd (6 + n + nodes n f c u + 2 * (k : Int)) b l w).1).1) then (0, out)
    else usc n f c u e b l w m (k + 1) (out ++ [(h1 (toInts (opn 7 (rd (6 + n + nodes n f c u + 2 * (k : Int)) b l w).1).1), (h2 (toInts (opn 7 (rd (6 + n + nodes n f c u + 2 * (k : Int)) b l w).1).1), (h4 (toInts (opn 7 (rd (6 + n + nodes n f c u + 2 * (k : Int)) b l w).1).1), (rd (6 + n + nodes n f c u + (2 * (k : Int) + 1)) b l w).1)))])
theorem getD_cons_app {out : EL} {x : Int × (Int × (Int × ByteArray))} (h : 0 < out.length) : (out ++ [x]).getD 0 E0 = out.getD 0 E0 := by
  cases out with
  | nil => simp at h
  | cons y r => rfl
theorem uscL {β : Type} {q p : Nat} {n f c u e a d : Int} {z0 : EL} {z1 : Int} {b : Bool} {l : List ByteArray} {w : WL} (hr : rt n f c u) (h : DS q p a d l w) (hsz : ∀ x, (rd x b l w).1.size ≤ 100) {K : Int → EL → Option β} {K0 K1 K2}
    (k0 : ∀ out x1 x2 x3 x4 x5 x6 x7 x8, K0 out x1 x2 x3 x4 x5 x6 x7 x8 = K 0 out) (k1 : ∀ x out x1 x2 x3 x4 x5 x6 x7 x8 x9 x10 x11 x12, K1 x out x1 x2 x3 x4 x5 x6 x7 x8 x9 x10 x11 x12 = K x []) (k2 : ∀ out x1 x2 x3 x4, K2 out x1 x2 x3 x4 = K 0 out) :
    ∀ (m k fuel : Nat) (out : EL) (lt le lp : Int) (lo : ByteArray), ((m + k : Nat) : Int) = u → m < fuel → out.length = k → (0 < k → (out.getD 0 E0).1 = lt ∧ (out.getD 0 E0).2.1 = le) →
    f34_1_r2000005_l2 20000 u a b d l w z0 z1 n f c u e K0 K1 K2 fuel (k : Int) out lt le lp lo =
      K (usc n f c u e b l w m k out).1 (usc n f c u e b l w m k out).2
  | _, _, 0, _, _, _, _, _, _, h, _, _ => by omega
  | 0, k, fuel + 1, out, lt, le, lp, lo, hm, _, _, _ => by
    rw [f34_1_r2000005_l2, cf (by omega), k2]; rfl
  | m + 1, k, fuel + 1, out, lt, le, lp, lo, hm, hf, ho, hlk => by
    have hn := hr.1
    have hu := hr.2.2.2
    have hno := nodes_ok n f c u
    rw [f34_1_r2000005_l2, ct (by omega), readU hr h hsz (by omega), rdU, usc]
    have hlike : okU n f c u e k (rd (6 + n + nodes n f c u + 2 * (k : Int)) b l w).1 (out.getD 0 E0).1 (out.getD 0 E0).2.1 ↔ okU n f c u e k (rd (6 + n + nodes n f c u + 2 * (k : Int)) b l w).1 lt le := by
      by_cases h0 : 0 < k
      · rw [(hlk h0).1, (hlk h0).2]
      · unfold okU
        exact ⟨fun hh => ⟨hh.1, hh.2.1, hh.2.2.1, hh.2.2.2.1, fun h' => (h0 h').elim⟩, fun hh => ⟨hh.1, hh.2.1, hh.2.2.1, hh.2.2.2.1, fun h' => (h0 h').elim⟩⟩
    by_cases q1 : (rd (6 + n + nodes n f c u + 2 * (k : Int)) b l w).2 = 0
    · rw [if_neg (fun hh => hh q1), if_neg (fun hh => hh q1), rdV]
      by_cases q2 : okU n f c u e k (rd (6 + n + nodes n f c u + 2 * (k : Int)) b l w).1 lt le
      · rw [if_neg (show ¬ ¬ okU n f c u e k (rd (6 + n + nodes n f c u + 2 * (k : Int)) b l w).1 lt le from fun hh => hh q2), if_neg (show ¬ ¬ okU n f c u e k (rd (6 + n + nodes n f c u + 2 * (k : Int)) b l w).1 (out.getD 0 E0).1 (out.getD 0 E0).2.1 from fun hh => hh (hlike.2 q2))]
        generalize (rd (6 + n + nodes n f c u + (2 * (k : Int) + 1)) b l w) = s2
        by_cases q3 : s2.2 = 0
        · by_cases q4 : crc (toInts s2.1) = h5 (toInts (opn 7 (rd (6 + n + nodes n f c u + 2 * (k : Int)) b l w).1).1)
          · rw [if_pos q3, decide_eq_true q4, if_neg (fun hh => hh q3), if_neg (fun hh => hh q4), app6]
            simp only
            rw [q3]
            show cond ((0 : Int) == 0) (cond (!true) _ (cond ((0 : Int) != 0) _ _)) _ = _
            rw [beq_self_eq_true, cond_true, Bool.not_true, cond_false, bnf rfl, cond_false, ct (by omega), w64 (x := (k : Int) + 1) (by omega) (by omega)]
            have ih := uscL (e := e) (z0 := z0) (z1 := z1) (K := K) hr h hsz k0 k1 k2 m (k + 1) fuel (out ++ [(h1 (toInts (opn 7 (rd (6 + n + nodes n f c u + 2 * (k : Int)) b l w).1).1), (h2 (toInts (opn 7 (rd (6 + n + nodes n f c u + 2 * (k : Int)) b l w).1).1), (h4 (toInts (opn 7 (rd (6 + n + nodes n f c u + 2 * (k : Int)) b l w).1).1), s2.1)))])
              (h1 (toInts (opn 7 (rd (6 + n + nodes n f c u + 2 * (k : Int)) b l w).1).1)) (h2 (toInts (opn 7 (rd (6 + n + nodes n f c u + 2 * (k : Int)) b l w).1).1)) (h4 (toInts (opn 7 (rd (6 + n + nodes n f c u + 2 * (k : Int)) b l w).1).1)) s2.1 (by omega) (by omega) (by simp; omega) (fun _ => by
                by_cases h0 : 0 < k
                · rw [getD_cons_app (by omega), (hlk h0).1, (hlk h0).2]
                  exact ⟨(q2.2.2.2.2 h0).1.symm, (q2.2.2.2.2 h0).2.symm⟩
                · have : out = [] := List.length_eq_zero_iff.1 (by omega)
                  subst this; exact ⟨rfl, rfl⟩)
            push_cast at ih
            exact ih
          · rw [if_pos q3, decide_eq_false q4, if_neg (fun hh => hh q3), if_pos q4, app6]
            simp only
            rw [q3]
            show cond ((0 : Int) == 0) (cond (!false) _ _) _ = _
            rw [beq_self_eq_true, cond_true, Bool.not_false, cond_true, k0]
        · rw [if_neg q3, if_pos q3, app6]
          simp only
          rw [show (s2.2 == 0) = false by simp [q3], cond_false, bnt q3, cond_true, k1]
      · rw [if_pos q2, if_pos (fun hh => q2 (hlike.1 hh)), app6]
        show cond ((0 : Int) == 0) (cond (!false) _ _) _ = _
        rw [beq_self_eq_true, cond_true, Bool.not_false, cond_true, k0]
    · rw [if_pos q1, if_pos q1, app6]
      simp only
      rw [show ((rd (6 + n + nodes n f c u + 2 * (k : Int)) b l w).2 == 0) = false by simp [q1], cond_false, bnt q1, cond_true, k1]
def usG (n f c u e : Int) (b : Bool) (l : List ByteArray) (w : WL) : Int × EL := if rt n f c u then usc n f c u e b l w u.toNat 0 [] else (12, [])
theorem usGP {β : Type} {q p : Nat} {n f c u e a d : Int} {b : Bool} {l : List ByteArray} {w : WL} (h : DS q p a d l w) (hsz : ∀ x, (rd x b l w).1.size ≤ 100) {K : Int → EL → Option β} :
    f34_1 20000 n f c u e a b d l w K = K (usG n f c u e b l w).1 (usG n f c u e b l w).2 := by
  rw [f34_1, right46, usG]
  by_cases hr : rt n f c u
  · have hu := hr.2.2.2
    rw [decide_eq_true hr, Bool.not_true, cond_false, if_pos hr, f96_1, f34_1_r2000005]
    exact uscL hr h hsz (fun _ _ _ _ _ _ _ _ _ => rfl) (fun _ _ _ _ _ _ _ _ _ _ _ _ _ _ => rfl) (fun _ _ _ _ _ => rfl) u.toNat 0 20000 [] 0 0 0 ByteArray.empty (by omega) (by omega) rfl (fun hh => by omega)
  · rw [decide_eq_false hr, Bool.not_false, cond_true, if_neg hr]
noncomputable def clS (n f c u a : Int) (b : Bool) (d : Int) (l : List ByteArray) (w : WL) : St :=
  if rt n f c u then svS (6 + n + nodes n f c u) Z64 a b d l w else (12, a, b, d, l, w)
theorem clP {β : Type} {m q : Nat} {n f c u a d : Int} {b : Bool} {l : List ByteArray} {w : WL} (h : DS m q a d l w) (hq : q < 5990) {K : Int → Int → Bool → Int → List ByteArray → WL → Option β} :
    f81_1 20000 n f c u a b d l w K = app K (clS n f c u a b d l w) := by
  rw [f81_1, right46, clS]
  by_cases hr : rt n f c u
  · have hu := hr.2.2.2
    have hz : ∀ K : ByteArray → Option β, f69_1 20000 K = K Z64 := fun K => by kernel_rfl
    rw [decide_eq_true hr, Bool.not_true, cond_false, if_pos hr, uareaP hr (by omega), hz, layP h (by omega), Int.mul_zero, Int.add_zero]
  · rw [decide_eq_false hr, Bool.not_false, cond_true, if_neg hr]; rfl
end
end Go.Proofs.YtlgopekjjkdkiaaGreatDoor.X
end
section
namespace Go.Proofs.YtlgopekjjkdkiaaGreatDoor.X
open Go Go.Proofs.YtlgopekjjkdkiaaGreatDoor.Ev Go.Proofs
set_option linter.unusedVariables false
set_option linter.unusedSectionVars false
section
variable [FZ]
end
section
variable [FZ]
end
section
variable [FZ]
end
section
variable [FZ]
end
section
variable [FZ]
end
section
variable [FZ]
end
section
variable [FZ]
end
section
variable [FZ]
end
end Go.Proofs.YtlgopekjjkdkiaaGreatDoor.X
end
section
namespace Go.Proofs.YtlgopekjjkdkiaaGreatDoor.X
open Go Go.Proofs.YtlgopekjjkdkiaaGreatDoor.Ev
set_option linter.unusedSectionVars false
set_option linter.unusedVariables false
set_option linter.unusedSimpArgs false
section
variable [FZ]
end
section
variable [FZ]
def fnd (i : Int) : EL → ByteArray × Bool
  | [] => (ByteArray.empty, false)
  | p :: r => if p.2.2.1 = i then (p.2.2.2, true) else fnd i r
structure SZ (l : List ByteArray) (w : WL) : Prop where
  l64 : ∀ s ∈ l, s.size = 64
  w64 : ∀ p ∈ w, p.2.size = 64
theorem last_sz {x : Int} : ∀ (w : WL) (s : ByteArray), (∀ p ∈ w, p.2.size = 64) → s.size ≤ 100 → (last x s w).size ≤ 100
  | [], s, _, hs => hs
  | p :: r, s, h, hs => by
    rw [last, List.foldl_cons, ← last]
    refine last_sz r _ (fun q hq => h q (by simp [hq])) ?_
    split
    · have := h p (by simp); omega
    · exact hs
theorem SZ.rd {l : List ByteArray} {w : WL} (h : SZ l w) (b : Bool) (x : Int) : (X.rd x b l w).1.size ≤ 100 := by
  unfold X.rd
  split
  · show ByteArray.empty.size ≤ 100; decide
  · show (if 0 ≤ x ∧ x < (l.length : Int) then _ else ByteArray.empty).size ≤ 100
    split
    · rename_i hx
      refine last_sz w _ h.w64 ?_
      have : l.getD x.toNat ByteArray.empty ∈ l := by
        have hlt : x.toNat < l.length := by omega
        rw [List.getD_eq_getElem?_getD, List.getElem?_eq_getElem hlt]
        exact List.getElem_mem hlt
      have := h.l64 _ this
      omega
    · show ByteArray.empty.size ≤ 100; decide
theorem SZ.put {l : List ByteArray} {w : WL} (h : SZ l w) {p : Int × ByteArray} (hp : p.2.size = 64) : SZ (put1 l p) w :=
  ⟨fun s hs => by
    rcases List.mem_or_eq_of_mem_set hs with hs | hs
    · exact h.l64 s hs
    · rw [hs]; exact hp, h.w64⟩
theorem SZ.puts {w' : WL} : ∀ (w : WL) (l : List ByteArray), (∀ p ∈ w, p.2.size = 64) → SZ l w' → SZ (w.foldl put1 l) w'
  | [], l, _, h => h
  | p :: r, l, hw, h => SZ.puts r (put1 l p) (fun q hq => hw q (by simp [hq])) (h.put (hw p (by simp)))
theorem SZ.wS {x : Int} {t : ByteArray} {a d : Int} {b : Bool} {l : List ByteArray} {w : WL} (h : SZ l w) : SZ l (X.wS x t a b d l w).2.2.2.2 := by
  unfold X.wS
  split
  · exact h
  · split
    · exact h
    · split
      · exact h
      · rename_i h3
        split
        · exact h
        · refine ⟨h.l64, fun p hp => ?_⟩
          rcases List.mem_append.1 hp with hp | hp
          · exact h.w64 p hp
          · simp at hp; rw [hp]; exact Classical.not_not.1 h3
theorem SZ.fS {a d : Int} {b : Bool} {l : List ByteArray} {w : WL} (h : SZ l w) : SZ (X.fS a b d l w).2.2.2.2.1 (X.fS a b d l w).2.2.2.2.2 := by
  unfold X.fS
  split
  · exact h
  · split
    · exact h
    · exact ⟨(SZ.puts w l h.w64 h).l64, fun p hp => by cases hp⟩
theorem SZ.svS {x : Int} {t : ByteArray} {a d : Int} {b : Bool} {l : List ByteArray} {w : WL} (h : SZ l w) : SZ (X.svS x t a b d l w).2.2.2.2.1 (X.svS x t a b d l w).2.2.2.2.2 := by
  unfold X.svS
  split
  · exact h.wS
  · exact h.wS.fS
theorem SZ.crash {ks : List Bool} : ∀ (w : WL) (i : Nat) (l : List ByteArray), SZ l w → SZ (crB ks i w l) []
  | [], i, l, h => ⟨h.l64, fun p hp => by cases hp⟩
  | p :: r, i, l, h => by
    rw [crB]
    refine SZ.crash r (i + 1) _ ?_
    have h' : SZ l r := ⟨h.l64, fun q hq => h.w64 q (by simp [hq])⟩
    split
    · exact h'.put (h.w64 p (by simp))
    · exact h'
end
end Go.Proofs.YtlgopekjjkdkiaaGreatDoor.X
end
section
namespace Go.Proofs.YtlgopekjjkdkiaaGreatDoor.X
open Go Go.Proofs.YtlgopekjjkdkiaaGreatDoor.Ev Go.Proofs
set_option linter.unusedVariables false
set_option linter.unusedSectionVars false
section
variable [FZ]
end
section
variable [FZ]
end
section
variable [FZ]
end
section
variable [FZ]
end
end Go.Proofs.YtlgopekjjkdkiaaGreatDoor.X
end
section
namespace Go.Proofs.YtlgopekjjkdkiaaGreatDoor.X
open Go Go.Proofs.YtlgopekjjkdkiaaGreatDoor.Ev
set_option linter.unusedSectionVars false
set_option linter.unusedVariables false
set_option linter.unusedSimpArgs false
section
variable [FZ]
theorem unS_ok {m q : Nat} {n f c u k t e p a d : Int} {b : Bool} {l : List ByteArray} {w : WL} (h : DS m q a d l w) (hq : q < 5990) (hz : SZ l w) :
    DS m (q + 4) (unS n f c u k t e p a b d l w).2.2.2.2.2.1 (unS n f c u k t e p a b d l w).2.2.2.2.2.2.2.1 (unS n f c u k t e p a b d l w).2.2.2.2.2.2.2.2.1 (unS n f c u k t e p a b d l w).2.2.2.2.2.2.2.2.2 ∧
    SZ (unS n f c u k t e p a b d l w).2.2.2.2.2.2.2.2.1 (unS n f c u k t e p a b d l w).2.2.2.2.2.2.2.2.2 := by
  have h4 : DS m (q + 4) a d l w := (((h.more (by omega)).more (by omega)).more (by omega)).more (by omega)
  unfold unS
  split
  · exact ⟨h4, hz⟩
  · split
    · exact ⟨h4, hz⟩
    · split
      · exact ⟨h4, hz⟩
      · split
        · exact ⟨h4, hz⟩
        · have h1 := svS_ok (x := 6 + n + nodes n f c u + (2 * k + 1)) (t := (rd p b l w).1) (b := b) h (by omega)
          have z1 := hz.svS (x := 6 + n + nodes n f c u + (2 * k + 1)) (t := (rd p b l w).1) (a := a) (b := b) (d := d)
          split
          · exact ⟨(h1.more (by omega)).more (by omega), z1⟩
          · have h2 := svS_ok (x := 6 + n + nodes n f c u + 2 * k) (t := uhB t e k p (crc (toInts (rd p b l w).1))) (b := (svS (6 + n + nodes n f c u + (2 * k + 1)) (rd p b l w).1 a b d l w).2.2.1) h1 (by omega)
            have z2 := z1.svS (x := 6 + n + nodes n f c u + 2 * k) (t := uhB t e k p (crc (toInts (rd p b l w).1))) (a := (svS (6 + n + nodes n f c u + (2 * k + 1)) (rd p b l w).1 a b d l w).2.1) (b := (svS (6 + n + nodes n f c u + (2 * k + 1)) (rd p b l w).1 a b d l w).2.2.1) (d := (svS (6 + n + nodes n f c u + (2 * k + 1)) (rd p b l w).1 a b d l w).2.2.2.1)
            simp only
            split
            · exact ⟨h2, z2⟩
            · exact ⟨h2, z2⟩
theorem clS_ok {m q : Nat} {n f c u a d : Int} {b : Bool} {l : List ByteArray} {w : WL} (h : DS m q a d l w) (hq : q < 5990) (hz : SZ l w) :
    DS m (q + 4) (clS n f c u a b d l w).2.1 (clS n f c u a b d l w).2.2.2.1 (clS n f c u a b d l w).2.2.2.2.1 (clS n f c u a b d l w).2.2.2.2.2 ∧ SZ (clS n f c u a b d l w).2.2.2.2.1 (clS n f c u a b d l w).2.2.2.2.2 := by
  have h4 : DS m (q + 4) a d l w := (((h.more (by omega)).more (by omega)).more (by omega)).more (by omega)
  unfold clS
  split
  · exact ⟨((svS_ok h (by omega)).more (by omega)).more (by omega), hz.svS⟩
  · exact ⟨h4, hz⟩
end
section
variable [FZ]
theorem fndQL {β : Type} {p : Int} {E : EL} (hl : E.length ≤ 10000) {K : ByteArray → Bool → Option β} : ∀ (r : EL) (j k : Nat), E.drop j = r → j ≤ E.length → r.length < k →
    f88_2085_l2 20000 ((E.length : Nat) : Int) E p (fun x1 => cond (decide (x1 < 0)) (K ByteArray.empty false) (cond (decide ((0 : Int) ≤ x1 ∧ x1 < ((E.length : Nat) : Int))) (cond (decide (0 + x1.toNat < E.length)) (K ((((E.getD (0 + x1.toNat) (0, (0, (0, ByteArray.empty)))).2).2).2) true) none) none)) (K ByteArray.empty false) k (j : Int) = K (fnd p r).1 (fnd p r).2
  | _, j, 0, _, _, hk => by omega
  | [], j, k + 1, hd, hj, _ => by
    have := len_of_drop_nil hd hj
    rw [f88_2085_l2, cf (by omega)]; rfl
  | e :: r, j, k + 1, hd, hj, hk => by
    obtain ⟨h1, h2, h3⟩ := getD_of_drop (d := ((0, (0, (0, ByteArray.empty))) : Int × (Int × (Int × ByteArray)))) hd
    rw [f88_2085_l2, ct (by omega), ct (by omega), ct (by omega), f89_345, h2, w64 (by omega) (by omega), fnd]
    by_cases h : e.2.2.1 = p
    · rw [show (e.2.2.1 == p) = true by simp [h], cond_true, cf (by omega), ct (by omega), ct (by omega), if_pos h]
    · rw [show (e.2.2.1 == p) = false by simp [h], cond_false, if_neg h]
      exact fndQL hl r (j + 1) k h3 (by omega) (by simp at hk; omega)
theorem fndQ {β : Type} {p : Int} {E : EL} (hl : E.length ≤ 10000) {K : ByteArray → Bool → Option β} : f30_1 20000 p E K = K (fnd p E).1 (fnd p E).2 := by
  rw [f30_1, f88_2085, ct (show ((-1 : Int) < 0) by omega)]
  exact fndQL hl E 0 20000 rfl (by omega) (by omega)
theorem fnd_iff {p : Int} : ∀ {E : EL}, (fnd p E).2 = true ↔ ∃ x ∈ E, x.2.2.1 = p
  | [] => by simp [fnd]
  | e :: r => by
    rw [fnd]
    by_cases h : e.2.2.1 = p
    · rw [if_pos h]; exact ⟨fun _ => ⟨e, by simp, h⟩, fun _ => rfl⟩
    · rw [if_neg h, fnd_iff]
      exact ⟨fun ⟨x, hx, he⟩ => ⟨x, by simp [hx], he⟩, fun ⟨x, hx, he⟩ => by
        rcases List.mem_cons.1 hx with rfl | hx
        · exact (h he).elim
        · exact ⟨x, hx, he⟩⟩
def bkL (E : EL) (l : List ByteArray) : Nat → Int → Bool → Int → WL → Int × Int × Bool × Int × WL
  | 0, a, b, d, w => (0, a, b, d, w)
  | j + 1, a, b, d, w => if (wS (E.getD j E0).2.2.1 (E.getD j E0).2.2.2 a b d l w).1 ≠ 0 then wS (E.getD j E0).2.2.1 (E.getD j E0).2.2.2 a b d l w else
      bkL E l j (wS (E.getD j E0).2.2.1 (E.getD j E0).2.2.2 a b d l w).2.1 (wS (E.getD j E0).2.2.1 (E.getD j E0).2.2.2 a b d l w).2.2.1 (wS (E.getD j E0).2.2.1 (E.getD j E0).2.2.2 a b d l w).2.2.2.1 (wS (E.getD j E0).2.2.1 (E.getD j E0).2.2.2 a b d l w).2.2.2.2
theorem backL {β : Type} {q : Nat} {n f c u z : Int} {E : EL} {l : List ByteArray} (hE : E.length ≤ 1000) {K0 : Int → Bool → Int → Int → Int → Int → Int → ByteArray → WL → Option β} {K1 : Int → Bool → Int → WL → Option β} {Z : Int → Int → Bool → Int → WL → Option β} (h0 : ∀ a b d e x1 x2 x3 x4 w, K0 a b d e x1 x2 x3 x4 w = Z e a b d w) :
    ∀ (j fu p : Nat) {a d : Int} {b : Bool} {w : WL}, j ≤ E.length → j < fu → DS q p a d l w → p + j < 6000 →
    f35_1_r2000004_l1 20000 l E n f c u z K0 K1 fu ((j : Int) - 1) a b d w = if (bkL E l j a b d w).1 ≠ 0 then Z (bkL E l j a b d w).1 (bkL E l j a b d w).2.1 (bkL E l j a b d w).2.2.1 (bkL E l j a b d w).2.2.2.1 (bkL E l j a b d w).2.2.2.2 else K1 (bkL E l j a b d w).2.1 (bkL E l j a b d w).2.2.1 (bkL E l j a b d w).2.2.2.1 (bkL E l j a b d w).2.2.2.2
  | _, 0, _, _, _, _, _, _, hf, _, _ => by omega
  | 0, fu + 1, p, a, d, b, w, _, _, _, _ => by rw [f35_1_r2000004_l1, cf (by omega)]; rfl
  | j + 1, fu + 1, p, a, d, b, w, hj, hf, h, hp => by
    rw [f35_1_r2000004_l1, show (((j + 1 : Nat) : Int) - 1) = (j : Int) by omega, ct (by omega), ct (by omega), ct (by omega), show 0 + ((j : Int)).toNat = j by omega, writeP h]
    by_cases hs : (wS (E.getD j E0).2.2.1 (E.getD j E0).2.2.2 a b d l w).1 = 0
    · have e : bkL E l (j + 1) a b d w = bkL E l j (wS (E.getD j E0).2.2.1 (E.getD j E0).2.2.2 a b d l w).2.1 (wS (E.getD j E0).2.2.1 (E.getD j E0).2.2.2 a b d l w).2.2.1 (wS (E.getD j E0).2.2.1 (E.getD j E0).2.2.2 a b d l w).2.2.2.1 (wS (E.getD j E0).2.2.1 (E.getD j E0).2.2.2 a b d l w).2.2.2.2 := by rw [bkL, if_neg (fun hh => hh hs)]
      rw [bnf hs, cond_false, w64 (by omega) (by omega), e]
      exact backL hE h0 j fu (p + 1) (by omega) (by omega) (wS_ok h (by omega)) (by omega)
    · have e : bkL E l (j + 1) a b d w = wS (E.getD j E0).2.2.1 (E.getD j E0).2.2.2 a b d l w := by rw [bkL, if_pos hs]
      rw [bnt hs, cond_true, h0, e, if_pos hs]
theorem bkL_ok {q : Nat} {E : EL} {l : List ByteArray} : ∀ (j p : Nat) {a d : Int} {b : Bool} {w : WL}, DS q p a d l w → p + j < 6000 → DS q (p + j) (bkL E l j a b d w).2.1 (bkL E l j a b d w).2.2.2.1 l (bkL E l j a b d w).2.2.2.2
  | 0, p, a, d, b, w, h, _ => h
  | j + 1, p, a, d, b, w, h, hp => by
    have h1 := wS_ok (x := (E.getD j E0).2.2.1) (t := (E.getD j E0).2.2.2) (b := b) h (by omega)
    unfold bkL
    split
    · exact ⟨h1.n40, by omega, h1.len, by have := h1.wl; omega, h1.wb, h1.ar, by have := h1.cr; omega⟩
    · have := bkL_ok (E := E) j (p + 1) (b := (wS (E.getD j E0).2.2.1 (E.getD j E0).2.2.2 a b d l w).2.2.1) h1 (by omega)
      rwa [show p + 1 + j = p + (j + 1) by omega] at this
theorem bkL_sz {E : EL} {l : List ByteArray} : ∀ (j : Nat) {a d : Int} {b : Bool} {w : WL}, SZ l w → SZ l (bkL E l j a b d w).2.2.2.2
  | 0, a, d, b, w, h => h
  | j + 1, a, d, b, w, h => by
    unfold bkL
    split
    · exact h.wS
    · exact bkL_sz j h.wS
noncomputable def bkS (n f c u : Int) (E : EL) (a : Int) (b : Bool) (d : Int) (l : List ByteArray) (w : WL) : St :=
  if ¬ rt n f c u then (12, a, b, d, l, w) else
  if (bkL E l E.length a b d w).1 ≠ 0 then ((bkL E l E.length a b d w).1, (bkL E l E.length a b d w).2.1, (bkL E l E.length a b d w).2.2.1, (bkL E l E.length a b d w).2.2.2.1, l, (bkL E l E.length a b d w).2.2.2.2) else
  if (fS (bkL E l E.length a b d w).2.1 (bkL E l E.length a b d w).2.2.1 (bkL E l E.length a b d w).2.2.2.1 l (bkL E l E.length a b d w).2.2.2.2).1 ≠ 0 then fS (bkL E l E.length a b d w).2.1 (bkL E l E.length a b d w).2.2.1 (bkL E l E.length a b d w).2.2.2.1 l (bkL E l E.length a b d w).2.2.2.2 else
  clS n f c u (fS (bkL E l E.length a b d w).2.1 (bkL E l E.length a b d w).2.2.1 (bkL E l E.length a b d w).2.2.2.1 l (bkL E l E.length a b d w).2.2.2.2).2.1 (fS (bkL E l E.length a b d w).2.1 (bkL E l E.length a b d w).2.2.1 (bkL E l E.length a b d w).2.2.2.1 l (bkL E l E.length a b d w).2.2.2.2).2.2.1 (fS (bkL E l E.length a b d w).2.1 (bkL E l E.length a b d w).2.2.1 (bkL E l E.length a b d w).2.2.2.1 l (bkL E l E.length a b d w).2.2.2.2).2.2.2.1 (fS (bkL E l E.length a b d w).2.1 (bkL E l E.length a b d w).2.2.1 (bkL E l E.length a b d w).2.2.2.1 l (bkL E l E.length a b d w).2.2.2.2).2.2.2.2.1 (fS (bkL E l E.length a b d w).2.1 (bkL E l E.length a b d w).2.2.1 (bkL E l E.length a b d w).2.2.2.1 l (bkL E l E.length a b d w).2.2.2.2).2.2.2.2.2
theorem bkP {β : Type} {q p : Nat} {n f c u a d : Int} {b : Bool} {E : EL} {l : List ByteArray} {w : WL} (h : DS q p a d l w) (hE : E.length ≤ 1000) (hp : p < 4000) {K : Int → Int → Bool → Int → List ByteArray → WL → Option β} :
    f35_1 20000 n f c u a b d l w E K = app K (bkS n f c u E a b d l w) := by
  rw [f35_1, right46, bkS]
  by_cases hr : rt n f c u
  · rw [decide_eq_true hr, Bool.not_true, cond_false, if_neg (fun hh => hh hr), f97_1, f35_1_r2000004, w64 (by omega) (by omega)]
    refine (backL (Z := fun e a b d w => K e a b d l w) hE (fun _ _ _ _ _ _ _ _ _ => rfl) E.length 20000 p (Nat.le_refl _) (by omega) h (by omega)).trans ?_
    have h1 := bkL_ok (E := E) (b := b) E.length p h (by omega)
    by_cases hs : (bkL E l E.length a b d w).1 = 0
    · rw [if_neg (fun hh => hh hs), if_neg (fun hh => hh hs), flushP (by omega) h1]
      by_cases hf : (fS (bkL E l E.length a b d w).2.1 (bkL E l E.length a b d w).2.2.1 (bkL E l E.length a b d w).2.2.2.1 l (bkL E l E.length a b d w).2.2.2.2).1 = 0
      · rw [bnf hf, cond_false, if_neg (fun hh => hh hf), clP (fS_ok (b := (bkL E l E.length a b d w).2.2.1) h1 (by omega)) (by omega)]
      · rw [bnt hf, cond_true, if_pos hf]; rfl
    · rw [if_pos hs, if_pos hs]; rfl
  · rw [decide_eq_false hr, Bool.not_false, cond_true, if_pos hr]; rfl
theorem bkS_ok {q p : Nat} {n f c u a d : Int} {b : Bool} {E : EL} {l : List ByteArray} {w : WL} (h : DS q p a d l w) (hz : SZ l w) (hp : p + E.length + 10 < 5900) :
    DS q (p + E.length + 5) (bkS n f c u E a b d l w).2.1 (bkS n f c u E a b d l w).2.2.2.1 (bkS n f c u E a b d l w).2.2.2.2.1 (bkS n f c u E a b d l w).2.2.2.2.2 ∧ SZ (bkS n f c u E a b d l w).2.2.2.2.1 (bkS n f c u E a b d l w).2.2.2.2.2 := by
  have le : ∀ {k k' : Nat} {a d : Int} {l : List ByteArray} {w : WL}, DS q k a d l w → k ≤ k' → k' ≤ 6000 → DS q k' a d l w := fun h hk hk' => ⟨h.n40, hk', h.len, by have := h.wl; omega, h.wb, h.ar, by have := h.cr; omega⟩
  have h1 := bkL_ok (E := E) (b := b) E.length p h (by omega)
  have z1 : SZ l (bkL E l E.length a b d w).2.2.2.2 := bkL_sz E.length hz
  unfold bkS
  split
  · exact ⟨le h (by omega) (by omega), hz⟩
  · split
    · exact ⟨le h1 (by omega) (by omega), z1⟩
    · have h2 := fS_ok (b := (bkL E l E.length a b d w).2.2.1) h1 (by omega)
      split
      · exact ⟨le h2 (by omega) (by omega), z1.fS⟩
      · have h3 := clS_ok (n := n) (f := f) (c := c) (u := u) (b := (fS (bkL E l E.length a b d w).2.1 (bkL E l E.length a b d w).2.2.1 (bkL E l E.length a b d w).2.2.2.1 l (bkL E l E.length a b d w).2.2.2.2).2.2.1) h2 (by omega) (z1.fS (a := (bkL E l E.length a b d w).2.1) (b := (bkL E l E.length a b d w).2.2.1) (d := (bkL E l E.length a b d w).2.2.2.1))
        exact ⟨le h3.1 (by omega) (by omega), h3.2⟩
end
section
variable [FZ]
def rv (l : List ByteArray) (w : WL) (x : Int) : ByteArray := last x (l.getD x.toNat ByteArray.empty) w
theorem rd_rv {l : List ByteArray} {w : WL} {x : Int} (hx : 0 ≤ x ∧ x < (l.length : Int)) : rd x false l w = (rv l w x, 0) := by
  rw [rd, if_neg (by simp), if_pos hx, kp, if_pos hx]; rfl
theorem wS_free {x c : Int} {t : ByteArray} {l : List ByteArray} {w : WL} (hx : 0 ≤ x ∧ x < (l.length : Int)) (ht : t.size = 64) : wS x t (-1) false c l w = (0, -1, false, c + 1, w ++ [(x, t)]) := by
  rw [wS, if_neg (by simp), if_neg (fun hh => hh hx), if_neg (fun hh => hh ht), if_neg (by omega)]; rfl
theorem last_none {x : Int} : ∀ (w : WL) (s : ByteArray), (∀ p ∈ w, p.1 ≠ x) → last x s w = s
  | [], s, _ => rfl
  | p :: r, s, h => by rw [last, List.foldl_cons, if_neg (h p (by simp)), ← last]; exact last_none r s fun q hq => h q (by simp [hq])
theorem put_get {l : List ByteArray} {p : Int × ByteArray} (hp : 0 ≤ p.1) {x : Nat} (hx : x < l.length) : (put1 l p).getD x ByteArray.empty = if p.1 = (x : Int) then p.2 else l.getD x ByteArray.empty := by
  rw [put1, List.getD_eq_getElem?_getD, List.getElem?_set]
  by_cases h : p.1 = (x : Int)
  · rw [if_pos (by omega), if_pos (by omega), if_pos h]; rfl
  · rw [if_neg (by omega), if_neg h, List.getD_eq_getElem?_getD]
theorem crB_get (ks : List Bool) : ∀ (w : WL) (i : Nat) (l : List ByteArray), (∀ q ∈ w, 0 ≤ q.1) → ∀ x : Nat, x < l.length →
    (crB ks i w l).getD x ByteArray.empty = l.getD x ByteArray.empty ∨ ∃ q ∈ w, q.1 = (x : Int) ∧ (crB ks i w l).getD x ByteArray.empty = q.2
  | [], i, l, _, x, _ => .inl rfl
  | p :: r, i, l, hw, x, hx => by
    rw [crB]
    have hl : (if ks.getD i false = true then put1 l p else l).length = l.length := by split; exact put1_len _ _; rfl
    rcases crB_get ks r (i + 1) (if ks.getD i false = true then put1 l p else l) (fun q hq => hw q (by simp [hq])) x (by omega) with h | ⟨q, hq, h1, h2⟩
    · rw [h]
      split
      · rw [put_get (hw p (by simp)) hx]
        split
        · rename_i he; exact .inr ⟨p, by simp, he, rfl⟩
        · exact .inl rfl
      · exact .inl rfl
    · exact .inr ⟨q, by simp [hq], h1, h2⟩
theorem puts_get : ∀ (w : WL) (l : List ByteArray), (∀ q ∈ w, 0 ≤ q.1) → ∀ x : Nat, x < l.length →
    ((w.foldl put1 l).getD x ByteArray.empty = l.getD x ByteArray.empty ∧ ∀ q ∈ w, q.1 ≠ (x : Int)) ∨ ∃ q ∈ w, q.1 = (x : Int) ∧ (w.foldl put1 l).getD x ByteArray.empty = q.2
  | [], l, _, x, _ => .inl ⟨rfl, fun q hq => by cases hq⟩
  | p :: r, l, hw, x, hx => by
    rw [List.foldl_cons]
    rcases puts_get r (put1 l p) (fun q hq => hw q (by simp [hq])) x (by rw [put1_len]; exact hx) with ⟨h, h'⟩ | ⟨q, hq, h1, h2⟩
    · rw [h, put_get (hw p (by simp)) hx]
      by_cases he : p.1 = (x : Int)
      · rw [if_pos he]; exact .inr ⟨p, by simp, he, rfl⟩
      · rw [if_neg he]
        refine .inl ⟨rfl, fun q hq => ?_⟩
        rcases List.mem_cons.1 hq with rfl | hq
        · exact he
        · exact h' q hq
    · exact .inr ⟨q, by simp [hq], h1, h2⟩
theorem crB_one {ks : List Bool} {p : Int × ByteArray} {l : List ByteArray} : crB ks 0 [p] l = l ∨ crB ks 0 [p] l = put1 l p := by
  rw [crB, crB]
  cases ks.getD 0 false with
  | false => exact .inl rfl
  | true => exact .inr rfl
end
section
variable [FZ]
theorem notU' : ¬ isU Z64 := fun hh => opn_zero 7 hh.1
structure KL (n f c u t e : Int) (W : Int → ByteArray) (m : Nat) (E : EL) (l : List ByteArray) : Prop where
  len : (l.length : Int) = 6 + n + nodes n f c u + 2 * u
  sz : ∀ x : Nat, x < l.length → (l.getD x ByteArray.empty).size = 64
  el : E.length = m
  mc : (m : Int) ≤ u
  ent : ∀ j : Nat, j < m → ∃ p : Int, mayb n f c u p = true ∧ E.drop j = (t, (e, (p, W p))) :: E.drop (j + 1) ∧ l.getD (6 + n + nodes n f c u + 2 * (j : Int)).toNat ByteArray.empty = uhB t e j p (crc (toInts (W p))) ∧
    l.getD (6 + n + nodes n f c u + (2 * (j : Int) + 1)).toNat ByteArray.empty = W p
  oth : ∀ j : Nat, m ≤ j → (j : Int) < u → l.getD (6 + n + nodes n f c u + 2 * (j : Int)).toNat ByteArray.empty = Z64
def inE (E : EL) (p : Int) : Prop := ∃ x ∈ E, x.2.2.1 = p
def datOK (n f c u : Int) (W : Int → ByteArray) (E : EL) (l : List ByteArray) : Prop := ∀ p, mayb n f c u p = true → inE E p ∨ l.getD p.toNat ByteArray.empty = W p
structure SB (n f c u : Int) (W : Int → ByteArray) (l : List ByteArray) : Prop where
  len : (l.length : Int) = 6 + n + nodes n f c u + 2 * u
  sz : ∀ x : Nat, x < l.length → (l.getD x ByteArray.empty).size = 64
  top : l.getD (6 + n + nodes n f c u).toNat ByteArray.empty = Z64
  dat : ∀ p, mayb n f c u p = true → l.getD p.toNat ByteArray.empty = W p
def Rb (n f c u t e : Int) (W : Int → ByteArray) (E : EL) (l : List ByteArray) : Prop := (∃ m, KL n f c u t e W m E l ∧ datOK n f c u W E l) ∨ (E = [] ∧ SB n f c u W l)
def CS (n f c u t e : Int) (W : Int → ByteArray) (l : List ByteArray) (w : WL) : Prop := ∀ ks, ∃ E, Rb n f c u t e W E (crB ks 0 w l)
section
variable {n f c u t e : Int} {W : Int → ByteArray} {m : Nat} {E : EL} {l l' : List ByteArray} {w : WL}
theorem may_bd {p : Int} (h : mayb n f c u p = true) : 6 ≤ p ∧ p < 6 + n + nodes n f c u := of_decide_eq_true h
theorem mem_drop {α : Type} {x : α} : ∀ {L : List α}, x ∈ L → ∃ j, j < L.length ∧ ∃ r, L.drop j = x :: r
  | y :: L, h => by
    rcases List.mem_cons.1 h with rfl | h
    · exact ⟨0, by simp, L, rfl⟩
    · obtain ⟨j, h1, r, h2⟩ := mem_drop h
      exact ⟨j + 1, by simp; omega, r, h2⟩
theorem KL.mem (h : KL n f c u t e W m E l) {x : Int × (Int × (Int × ByteArray))} (hx : x ∈ E) : ∃ p, mayb n f c u p = true ∧ x = (t, (e, (p, W p))) := by
  obtain ⟨j, h1, r, h2⟩ := mem_drop hx
  obtain ⟨p, q1, q2, _⟩ := h.ent j (by rw [← h.el]; exact h1)
  rw [h2] at q2
  exact ⟨p, q1, (List.cons.inj q2).1⟩
theorem Rb.mem (h : Rb n f c u t e W E l) {x : Int × (Int × (Int × ByteArray))} (hx : x ∈ E) : ∃ p, mayb n f c u p = true ∧ x = (t, (e, (p, W p))) := by
  rcases h with ⟨m, h, _⟩ | ⟨rfl, _⟩
  · exact h.mem hx
  · cases hx
theorem Rb.len (h : Rb n f c u t e W E l) : (l.length : Int) = 6 + n + nodes n f c u + 2 * u := by
  rcases h with ⟨m, h, _⟩ | ⟨_, h⟩
  · exact h.len
  · exact h.len
theorem Rb.sz (h : Rb n f c u t e W E l) : ∀ x : Nat, x < l.length → (l.getD x ByteArray.empty).size = 64 := by
  rcases h with ⟨m, h, _⟩ | ⟨_, h⟩
  · exact h.sz
  · exact h.sz
theorem Rb.el (h : Rb n f c u t e W E l) (hu : 0 ≤ u) : (E.length : Int) ≤ u := by
  rcases h with ⟨m, h, _⟩ | ⟨rfl, h⟩
  · have := h.mc; have := h.el; omega
  · simpa using hu
theorem KL.congr (h : KL n f c u t e W m E l) (hr : rt n f c u) (hl : l'.length = l.length) (hs : ∀ x : Nat, x < l'.length → (l'.getD x ByteArray.empty).size = 64)
    (he : ∀ x : Nat, x < l.length → 6 + n + nodes n f c u ≤ (x : Int) → (x : Int) ≠ 6 + n + nodes n f c u + (2 * (m : Int) + 1) → l'.getD x ByteArray.empty = l.getD x ByteArray.empty) : KL n f c u t e W m E l' := by
  have hlen := h.len
  have hno := nodes_ok n f c u
  have hn := hr.1
  have hmc := h.mc
  refine ⟨by rw [hl]; exact hlen, hs, h.el, hmc, fun j hj => ?_, fun j h1 h2 => ?_⟩
  · obtain ⟨p, q1, q2, q3, q4⟩ := h.ent j hj
    exact ⟨p, q1, q2, by rw [he _ (by omega) (by omega) (by omega)]; exact q3, by rw [he _ (by omega) (by omega) (by omega)]; exact q4⟩
  · rw [he _ (by omega) (by omega) (by omega)]; exact h.oth j h1 h2
theorem KL.more (h : KL n f c u t e W m E l) (hr : rt n f c u) (hm : (m : Int) < u) {p : Int} (hp : mayb n f c u p = true) (hl : l'.length = l.length) (hs : ∀ x : Nat, x < l'.length → (l'.getD x ByteArray.empty).size = 64)
    (he : ∀ x : Nat, x < l.length → 6 + n + nodes n f c u ≤ (x : Int) → (x : Int) ≠ 6 + n + nodes n f c u + (2 * (m : Int) + 1) → (x : Int) ≠ 6 + n + nodes n f c u + 2 * (m : Int) → l'.getD x ByteArray.empty = l.getD x ByteArray.empty)
    (ht : l'.getD (6 + n + nodes n f c u + 2 * (m : Int)).toNat ByteArray.empty = uhB t e m p (crc (toInts (W p)))) (hb : l'.getD (6 + n + nodes n f c u + (2 * (m : Int) + 1)).toNat ByteArray.empty = W p) :
    KL n f c u t e W (m + 1) (E ++ [(t, (e, (p, W p)))]) l' := by
  have hlen := h.len
  have hno := nodes_ok n f c u
  have hn := hr.1
  have hel := h.el
  refine ⟨by rw [hl]; exact hlen, hs, by simp [hel], by omega, fun j hj => ?_, fun j h1 h2 => ?_⟩
  · by_cases hjm : j < m
    · obtain ⟨p', q1, q2, q3, q4⟩ := h.ent j hjm
      refine ⟨p', q1, ?_, by rw [he _ (by omega) (by omega) (by omega) (by omega)]; exact q3, by rw [he _ (by omega) (by omega) (by omega) (by omega)]; exact q4⟩
      rw [List.drop_append_of_le_length (by omega), List.drop_append_of_le_length (by omega), q2]; rfl
    · obtain rfl : j = m := by omega
      refine ⟨p, hp, ?_, ht, hb⟩
      rw [List.drop_left' hel, List.drop_eq_nil_of_le (by simp; omega)]
  · rw [he _ (by omega) (by omega) (by omega) (by omega)]; exact h.oth j (by omega) h2
theorem KL.usc_eq (h : KL n f c u t e W m E l) (hr : rt n f c u) {e0 : Int} (he0 : e0 < e) (he : U64 e) (ht : U64 t) : ∀ (d j k : Nat), d + j = m → ((k + j : Nat) : Int) = u → ∀ out : EL, out ++ E.drop j = E → out.length = j → usc n f c u e0 false l [] k j out = (0, E)
  | 0, j, 0, hd, hk, out, ho, _ => by
    have : E.drop j = [] := List.drop_eq_nil_of_le (by rw [h.el]; omega)
    rw [this, List.append_nil] at ho
    rw [usc, ho]
  | 0, j, k + 1, hd, hk, out, ho, _ => by
    have hl := h.len
    have hno := nodes_ok n f c u
    have hn := hr.1
    have : E.drop j = [] := List.drop_eq_nil_of_le (by rw [h.el]; omega)
    rw [this, List.append_nil] at ho
    have hx : 0 ≤ 6 + n + nodes n f c u + 2 * (j : Int) ∧ 6 + n + nodes n f c u + 2 * (j : Int) < (l.length : Int) := by omega
    have hz : l.getD (6 + n + nodes n f c u + 2 * (j : Int)).toNat ByteArray.empty = Z64 := h.oth j (by omega) (by omega)
    rw [usc, rd_nil' hx, hz, if_neg (by simp), if_pos (fun hh => notU' hh.1), ho]
  | d + 1, j, 0, hd, hk, out, ho, _ => by have := h.mc; omega
  | d + 1, j, k + 1, hd, hk, out, ho, hol => by
    have hl := h.len
    have hno := nodes_ok n f c u
    have hn := hr.1
    have hu := hr.2.2.2
    obtain ⟨p, h1, h3', h4', hz⟩ := h.ent j (by omega)
    have hp := may_bd h1
    have hx : 0 ≤ 6 + n + nodes n f c u + 2 * (j : Int) ∧ 6 + n + nodes n f c u + 2 * (j : Int) < (l.length : Int) := by omega
    have hx2 : 0 ≤ 6 + n + nodes n f c u + (2 * (j : Int) + 1) ∧ 6 + n + nodes n f c u + (2 * (j : Int) + 1) < (l.length : Int) := by omega
    have ho8 : opn 7 (uhB t e j p (crc (toInts (W p)))) = (ofInts (uhL t e j p (crc (toInts (W p)))), 0) := mkB_open (by omega) (by omega) (by rw [oi_size, uhL_len]; omega)
    have hH : isU (uhB t e j p (crc (toInts (W p)))) := by
      unfold isU
      rw [ho8]
      exact ⟨rfl, by show (ofInts (uhL t e j p (crc (toInts (W p))))).size = 28; rw [oi_size, uhL_len]⟩
    obtain ⟨t1, t2, t3, t4, t5⟩ := h_hd (t := t) (e := e) (k := j) (p := p) (s := crc (toInts (W p))) ht he (by omega) (by omega) (crc_r _)
    have hti : toInts (opn 7 (uhB t e j p (crc (toInts (W p))))).1 = uhL t e j p (crc (toInts (W p))) := by rw [ho8]; exact toInts_ofInts (uhL_r _ _ _ _ _)
    have hok : okU n f c u e0 j (uhB t e j p (crc (toInts (W p)))) (out.getD 0 E0).1 (out.getD 0 E0).2.1 := by
      refine ⟨hH, by rw [hti, t3], by rw [hti, t4]; exact h1, by rw [hti, t2]; exact he0, fun h0 => ?_⟩
      obtain ⟨p0, _, q2, _⟩ := h.ent 0 (by omega)
      have : out.getD 0 E0 = (t, (e, (p0, W p0))) := by
        rw [List.drop_zero] at q2
        rw [q2] at ho
        cases out with
        | nil => simp at hol; omega
        | cons y r => exact (List.cons.inj ho).1
      rw [this, hti, t1, t2]; exact ⟨rfl, rfl⟩
    rw [usc, rd_nil' hx, h4', rd_nil' hx2, hz, if_neg (by simp), if_neg (fun hh => hh hok), if_neg (by simp), hti, t1, t2, t4, t5, if_neg (fun hh => hh rfl)]
    exact KL.usc_eq h hr he0 he ht d (j + 1) k (by omega) (by omega) _ (by rw [List.append_assoc]; rw [h3'] at ho; exact ho) (by simp; omega)
theorem SB.scan (h : SB n f c u W l) (hr : rt n f c u) (e0 : Int) : usG n f c u e0 false l [] = (0, []) := by
  have hn := hr.1
  have hu := hr.2.2.2
  have hno := nodes_ok n f c u
  have hl := h.len
  rw [usG, if_pos hr]
  obtain ⟨k, hk⟩ : ∃ k, u.toNat = k + 1 := ⟨u.toNat - 1, by omega⟩
  have hx' : 0 ≤ 6 + n + nodes n f c u + 2 * ((0 : Nat) : Int) ∧ 6 + n + nodes n f c u + 2 * ((0 : Nat) : Int) < (l.length : Int) := by omega
  have hg : l.getD (6 + n + nodes n f c u + 2 * ((0 : Nat) : Int)).toNat ByteArray.empty = Z64 := by
    rw [show (6 + n + nodes n f c u + 2 * ((0 : Nat) : Int)).toNat = (6 + n + nodes n f c u).toNat by omega]; exact h.top
  rw [hk, usc, rd_nil' hx', hg, if_neg (by simp), if_pos (fun hh => notU' hh.1)]
theorem Rb.scan (h : Rb n f c u t e W E l) (hr : rt n f c u) {e0 : Int} (he0 : e0 < e) (he : U64 e) (ht : U64 t) : usG n f c u e0 false l [] = (0, E) := by
  have hu := hr.2.2.2
  rcases h with ⟨m, h, _⟩ | ⟨rfl, h⟩
  · have := h.mc
    rw [usG, if_pos hr]
    exact h.usc_eq hr he0 he ht m 0 u.toNat (by omega) (by omega) [] rfl rfl
  · exact h.scan hr e0
def wW (n f c u : Int) (W : Int → ByteArray) (w : WL) : Prop := ∀ q ∈ w, mayb n f c u q.1 = true ∧ q.2 = W q.1
theorem Rb.back (h : Rb n f c u t e W E l) (hr : rt n f c u) (hW : ∀ p, mayb n f c u p = true → (W p).size = 64) (hl : l'.length = l.length)
    (hg : ∀ x : Nat, x < l.length → l'.getD x ByteArray.empty = l.getD x ByteArray.empty ∨ (mayb n f c u (x : Int) = true ∧ l'.getD x ByteArray.empty = W (x : Int))) : Rb n f c u t e W E l' := by
  have hn := hr.1
  have hu := hr.2.2.2
  have hno := nodes_ok n f c u
  have hsz := h.sz
  have hlen := h.len
  have hs : ∀ x : Nat, x < l'.length → (l'.getD x ByteArray.empty).size = 64 := fun x hx => by
    rcases hg x (by omega) with h1 | ⟨h1, h2⟩
    · rw [h1]; exact hsz x (by omega)
    · rw [h2]; exact hW _ h1
  have hd : ∀ p, mayb n f c u p = true → l.getD p.toNat ByteArray.empty = W p → l'.getD p.toNat ByteArray.empty = W p := fun p hp h0 => by
    have hb := may_bd hp
    rcases hg p.toNat (by omega) with h1 | ⟨h1, h2⟩
    · rw [h1]; exact h0
    · rw [h2, show ((p.toNat : Nat) : Int) = p by omega]
  rcases h with ⟨m, h, hdat⟩ | ⟨rfl, h⟩
  · refine .inl ⟨m, h.congr hr hl hs fun x hx h1 _ => ?_, fun p hp => (hdat p hp).imp id (hd p hp)⟩
    rcases hg x hx with h2 | ⟨h2, _⟩
    · exact h2
    · have := may_bd h2; omega
  · refine .inr ⟨rfl, by rw [hl]; exact h.len, hs, ?_, fun p hp => hd p hp (h.dat p hp)⟩
    rcases hg (6 + n + nodes n f c u).toNat (by omega) with h1 | ⟨h1, _⟩
    · rw [h1]; exact h.top
    · have := may_bd h1; omega
theorem wW_in (hr : rt n f c u) (hw : wW n f c u W w) : ∀ q ∈ w, 0 ≤ q.1 := fun q hq => by have := may_bd (hw q hq).1; omega
theorem Rb.cs (h : Rb n f c u t e W E l) (hr : rt n f c u) (hW : ∀ p, mayb n f c u p = true → (W p).size = 64) (hw : wW n f c u W w) : CS n f c u t e W l w := fun ks => by
  refine ⟨E, h.back hr hW (crB_len ks w 0 l) fun x hx => ?_⟩
  rcases crB_get ks w 0 l (wW_in hr hw) x hx with h1 | ⟨q, hq, h1, h2⟩
  · exact .inl h1
  · obtain ⟨a1, a2⟩ := hw q hq
    exact .inr ⟨by rw [← h1]; exact a1, by rw [h2, a2, h1]⟩
theorem Rb.flushed (h : Rb n f c u t e W E l) (hr : rt n f c u) (hW : ∀ p, mayb n f c u p = true → (W p).size = 64) (hw : wW n f c u W w) (hall : ∀ x ∈ E, ∃ q ∈ w, q.1 = x.2.2.1) :
    Rb n f c u t e W E (w.foldl put1 l) ∧ ∀ p, mayb n f c u p = true → (w.foldl put1 l).getD p.toNat ByteArray.empty = W p := by
  have hn := hr.1
  have hu := hr.2.2.2
  have hno := nodes_ok n f c u
  have hlen := h.len
  refine ⟨h.back hr hW (puts_len w l) fun x hx => ?_, fun p hp => ?_⟩
  · rcases puts_get w l (wW_in hr hw) x hx with ⟨h1, _⟩ | ⟨q, hq, h1, h2⟩
    · exact .inl h1
    · obtain ⟨a1, a2⟩ := hw q hq
      exact .inr ⟨by rw [← h1]; exact a1, by rw [h2, a2, h1]⟩
  · have hb := may_bd hp
    rcases puts_get w l (wW_in hr hw) p.toNat (by omega) with ⟨h1, h2⟩ | ⟨q, hq, h1, h2⟩
    · rw [h1]
      rcases h with ⟨m, h, hdat⟩ | ⟨rfl, h⟩
      · rcases hdat p hp with ⟨x, hx, h3⟩ | h3
        · obtain ⟨q, hq, h4⟩ := hall x hx
          exact absurd (show q.1 = ((p.toNat : Nat) : Int) by omega) (h2 q hq)
        · exact h3
      · exact h.dat p hp
    · rw [h2, (hw q hq).2, h1, show ((p.toNat : Nat) : Int) = p by omega]
theorem sb_clear (hr : rt n f c u) (h : Rb n f c u t e W E l) (hd : ∀ p, mayb n f c u p = true → l.getD p.toNat ByteArray.empty = W p) : SB n f c u W (put1 l (6 + n + nodes n f c u, Z64)) := by
  have hn := hr.1
  have hu := hr.2.2.2
  have hno := nodes_ok n f c u
  have hlen := h.len
  have hsz := h.sz
  have g : ∀ x : Nat, x < l.length → (put1 l (6 + n + nodes n f c u, Z64)).getD x ByteArray.empty = if 6 + n + nodes n f c u = (x : Int) then Z64 else l.getD x ByteArray.empty := fun x hx => put_get (p := (6 + n + nodes n f c u, Z64)) (show 0 ≤ 6 + n + nodes n f c u by omega) hx
  refine ⟨by rw [put1_len]; exact hlen, fun x hx => ?_, ?_, fun p hp => ?_⟩
  · rw [put1_len] at hx
    rw [g x hx]
    split
    · exact Z64_size
    · exact hsz x hx
  · rw [g _ (by omega), if_pos (by omega)]
  · have hb := may_bd hp
    rw [g _ (by omega), if_neg (by omega)]; exact hd p hp
theorem bkL_W (hr : rt n f c u) (hl : (l.length : Int) = 6 + n + nodes n f c u + 2 * u) (hW : ∀ p, mayb n f c u p = true → (W p).size = 64) (hE : ∀ x ∈ E, ∃ p, mayb n f c u p = true ∧ x = (t, (e, (p, W p)))) : ∀ (j : Nat) {a d : Int} {w : WL}, j ≤ E.length → -1 ≤ a → wW n f c u W w →
    wW n f c u W (bkL E l j a false d w).2.2.2.2 ∧ ((bkL E l j a false d w).1 = 0 → (bkL E l j a false d w).2.2.1 = false ∧ -1 ≤ (bkL E l j a false d w).2.1 ∧ (a = -1 → (bkL E l j a false d w).2.1 = -1) ∧ (∀ q ∈ w, q ∈ (bkL E l j a false d w).2.2.2.2) ∧ ∀ i : Nat, i < j → ∃ q ∈ (bkL E l j a false d w).2.2.2.2, q.1 = (E.getD i E0).2.2.1) ∧
    ((bkL E l j a false d w).1 ≠ 0 → a ≠ -1)
  | 0, a, d, w, _, ha, hw => ⟨hw, fun _ => ⟨rfl, ha, fun h => h, fun q hq => hq, fun i hi => by omega⟩, fun h => absurd rfl h⟩
  | j + 1, a, d, w, hj, ha, hw => by
    have hno := nodes_ok n f c u
    have hn := hr.1
    have hu := hr.2.2.2
    have hm : E.getD j E0 ∈ E := by rw [List.getD_eq_getElem?_getD, List.getElem?_eq_getElem (by omega)]; simp
    obtain ⟨p, hp, hx⟩ := hE _ hm
    have hb := may_bd hp
    have hin : 0 ≤ p ∧ p < (l.length : Int) := by omega
    have e1 : (E.getD j E0).2.2.1 = p := by rw [hx]
    have e2 : (E.getD j E0).2.2.2 = W p := by rw [hx]
    by_cases h0 : a = 0
    · have hs : wS p (W p) a false d l w = (5, -1, true, d, w) := by rw [wS, if_neg (by simp), if_neg (fun hh => hh hin), if_neg (fun hh => hh (hW p hp)), if_pos h0]
      have hk : bkL E l (j + 1) a false d w = (5, -1, true, d, w) := by rw [bkL, e1, e2, hs, if_pos (by simp)]
      rw [hk]
      exact ⟨hw, fun h => by simp at h, fun _ => by omega⟩
    · have hs : wS p (W p) a false d l w = (0, dec a, false, d + 1, w ++ [(p, W p)]) := by rw [wS, if_neg (by simp), if_neg (fun hh => hh hin), if_neg (fun hh => hh (hW p hp)), if_neg h0]
      have hk : bkL E l (j + 1) a false d w = bkL E l j (dec a) false (d + 1) (w ++ [(p, W p)]) := by rw [bkL, e1, e2, hs, if_neg (by simp)]
      have hw' : wW n f c u W (w ++ [(p, W p)]) := fun q hq => by
        rcases List.mem_append.1 hq with hq | hq
        · exact hw q hq
        · rw [List.mem_singleton.1 hq]; exact ⟨hp, rfl⟩
      have hda : -1 ≤ dec a := by unfold dec; split <;> omega
      obtain ⟨i1, i2, i3⟩ := bkL_W hr hl hW hE j (a := dec a) (d := d + 1) (by omega) hda hw'
      rw [hk]
      refine ⟨i1, fun h => ?_, fun h => ?_⟩
      · obtain ⟨b1, b2, b3, b4, b5⟩ := i2 h
        refine ⟨b1, b2, fun h1 => b3 (by rw [dec, if_pos h1]; exact h1), fun q hq => b4 q (by simp [hq]), fun i hi => ?_⟩
        by_cases hij : i = j
        · subst hij; exact ⟨(p, W p), b4 _ (by simp), e1.symm⟩
        · exact b5 i (by omega)
      · have := i3 h
        intro h1
        exact this (by rw [dec, if_pos h1]; exact h1)
theorem bk_ok (hr : rt n f c u) (h : Rb n f c u t e W E l) (hW : ∀ p, mayb n f c u p = true → (W p).size = 64) {a d : Int} (ha : -1 ≤ a) :
    CS n f c u t e W (bkS n f c u E a false d l []).2.2.2.2.1 (bkS n f c u E a false d l []).2.2.2.2.2 ∧
    (a = -1 → ∃ d' l', bkS n f c u E a false d l [] = (0, -1, false, d', l', []) ∧ SB n f c u W l') := by
  have hn := hr.1
  have hu := hr.2.2.2
  have hno := nodes_ok n f c u
  have hlen := h.len
  obtain ⟨i1, i2, i3⟩ := bkL_W (d := d) hr hlen hW (fun x hx => h.mem hx) E.length (Nat.le_refl _) ha (w := []) (fun q hq => by cases hq)
  unfold bkS
  rw [if_neg (fun hh => hh hr)]
  generalize hB : bkL E l E.length a false d [] = B at *
  obtain ⟨c1, a1, b1, d1, w1⟩ := B
  simp only at i1 i2 i3 ⊢
  by_cases hs : c1 = 0
  rotate_left
  · rw [if_pos hs]
    exact ⟨h.cs hr hW i1, fun h1 => absurd h1 (i3 hs)⟩
  rw [if_neg (fun hh => hh hs)]
  obtain ⟨rfl, j2, j3, j4, j5⟩ := i2 hs
  have hall : ∀ x ∈ E, ∃ q ∈ w1, q.1 = x.2.2.1 := fun x hx => by
    obtain ⟨i, h1, rfl⟩ := List.getElem_of_mem hx
    obtain ⟨q, q1, q2⟩ := j5 i h1
    exact ⟨q, q1, by rw [q2, List.getD_eq_getElem?_getD, List.getElem?_eq_getElem h1]; rfl⟩
  by_cases h0 : a1 = 0
  · have e1 : fS a1 false d1 l w1 = (5, -1, true, d1, l, w1) := by rw [fS, if_neg (by simp), if_pos h0]
    rw [e1, if_pos (by simp)]
    exact ⟨h.cs hr hW i1, fun h1 => by have := j3 h1; omega⟩
  have e1 : fS a1 false d1 l w1 = (0, dec a1, false, d1 + 1, w1.foldl put1 l, []) := by rw [fS, if_neg (by simp), if_neg h0]
  rw [e1]
  simp only
  rw [if_neg (by simp), clS, if_pos hr]
  obtain ⟨f1, f2⟩ := h.flushed hr hW i1 hall
  have f3 := sb_clear hr f1 f2
  have hx : 0 ≤ 6 + n + nodes n f c u ∧ 6 + n + nodes n f c u < ((w1.foldl put1 l).length : Int) := by rw [puts_len]; omega
  obtain ⟨g1, g2, g3, g4⟩ := svS_at (l := w1.foldl put1 l) (a := dec a1) (d := d1 + 1) hx Z64_size
  have hcs : CS n f c u t e W (w1.foldl put1 l) [] := f1.cs hr hW fun q hq => by cases hq
  have hda : -1 ≤ dec a1 := by unfold dec; split <;> omega
  have hcb : CS n f c u t e W (put1 (w1.foldl put1 l) (6 + n + nodes n f c u, Z64)) [] := fun ks => ⟨[], .inr ⟨rfl, f3⟩⟩
  by_cases k1 : dec a1 = -1
  · rw [g1 k1]
    exact ⟨hcb, fun _ => ⟨_, _, rfl, f3⟩⟩
  have hna : a ≠ -1 := fun h1 => k1 (by rw [j3 h1]; rfl)
  by_cases k2 : dec a1 = 0
  · rw [g2 k2]; exact ⟨hcs, fun h1 => absurd h1 hna⟩
  by_cases k3 : dec a1 = 1
  · rw [g3 k3]
    refine ⟨fun ks => ?_, fun h1 => absurd h1 hna⟩
    rcases crB_one (ks := ks) (p := (6 + n + nodes n f c u, Z64)) (l := w1.foldl put1 l) with h5 | h5
    · exact ⟨E, by simp only; rw [h5]; exact f1⟩
    · exact ⟨[], by simp only; rw [h5]; exact .inr ⟨rfl, f3⟩⟩
  · rw [g4 (by omega)]
    exact ⟨hcb, fun h1 => absurd h1 hna⟩
end
end
section
variable [FZ]
section
variable {n f c u t e : Int} {W : Int → ByteArray} {E : EL} {l l' : List ByteArray} {w : WL}
def PSx (n f c u t e : Int) (W : Int → ByteArray) (E : EL) (l : List ByteArray) (w : WL) : Prop :=
  KL n f c u t e W E.length E l ∧ datOK n f c u W E l ∧ ∀ q ∈ w, q.2.size = 64 ∧ 0 ≤ q.1 ∧ (inE E q.1 ∨ q.1 = 6 + n + nodes n f c u + (2 * (E.length : Int) + 1))
def PSf (n f c u t e : Int) (W : Int → ByteArray) (E : EL) (l : List ByteArray) (w : WL) : Prop :=
  KL n f c u t e W E.length E l ∧ datOK n f c u W E l ∧ ∀ q ∈ w, q.2.size = 64 ∧ 0 ≤ q.1 ∧ inE E q.1
def PS (n f c u t e : Int) (W : Int → ByteArray) (E : EL) (b : Bool) (l : List ByteArray) (w : WL) : Prop := (b = false ∧ PSf n f c u t e W E l w) ∨ (b = true ∧ CS n f c u t e W l w)
theorem PSf.px (h : PSf n f c u t e W E l w) : PSx n f c u t e W E l w := ⟨h.1, h.2.1, fun q hq => ⟨(h.2.2 q hq).1, (h.2.2 q hq).2.1, .inl (h.2.2 q hq).2.2⟩⟩
theorem px_any (hr : rt n f c u) (h : PSx n f c u t e W E l w) (hl : l'.length = l.length)
    (hg : ∀ x : Nat, x < l.length → l'.getD x ByteArray.empty = l.getD x ByteArray.empty ∨ ∃ q ∈ w, q.1 = (x : Int) ∧ l'.getD x ByteArray.empty = q.2) : KL n f c u t e W E.length E l' ∧ datOK n f c u W E l' := by
  obtain ⟨h1, h2, h3⟩ := h
  have hn := hr.1
  have hu := hr.2.2.2
  have hno := nodes_ok n f c u
  have hlen := h1.len
  refine ⟨h1.congr hr hl (fun x hx => ?_) (fun x hx hb hne => ?_), fun p hp => ?_⟩
  · rcases hg x (by omega) with h4 | ⟨q, hq, _, h5⟩
    · rw [h4]; exact h1.sz x (by omega)
    · rw [h5]; exact (h3 q hq).1
  · rcases hg x hx with h4 | ⟨q, hq, h4, h5⟩
    · exact h4
    · rcases (h3 q hq).2.2 with ⟨y, hy, h6⟩ | h6
      · obtain ⟨p, q1, rfl⟩ := h1.mem hy
        have := may_bd q1
        have h6 : p = q.1 := h6
        omega
      · omega
  · rcases h2 p hp with h4 | h4
    · exact .inl h4
    · have hb := may_bd hp
      rcases hg p.toNat (by omega) with h5 | ⟨q, hq, h5, h6⟩
      · exact .inr (by rw [h5]; exact h4)
      · rcases (h3 q hq).2.2 with h7 | h7
        · exact .inl (by rw [show p = q.1 by omega]; exact h7)
        · omega
theorem px_cs (hr : rt n f c u) (h : PSx n f c u t e W E l w) : CS n f c u t e W l w := fun ks => by
  obtain ⟨h1, h2⟩ := px_any hr h (crB_len ks w 0 l) (crB_get ks w 0 l fun q hq => (h.2.2 q hq).2.1)
  exact ⟨E, .inl ⟨E.length, h1, h2⟩⟩
theorem PS.cs {b : Bool} (hr : rt n f c u) (h : PS n f c u t e W E b l w) : CS n f c u t e W l w := by
  rcases h with ⟨_, h⟩ | ⟨_, h⟩
  · exact px_cs hr h.px
  · exact h
theorem px_flush (hr : rt n f c u) (h : PSx n f c u t e W E l w) : KL n f c u t e W E.length E (w.foldl put1 l) ∧ datOK n f c u W E (w.foldl put1 l) :=
  px_any hr h (puts_len w l) fun x hx => (puts_get w l (fun q hq => (h.2.2 q hq).2.1) x hx).imp (·.1) id
theorem ps_wr {b : Bool} {x a d : Int} {s : ByteArray} (hr : rt n f c u) (h : PS n f c u t e W E b l w) (hx : inE E x) : PS n f c u t e W E (wS x s a b d l w).2.2.1 l (wS x s a b d l w).2.2.2.2 := by
  rcases h with ⟨rfl, h⟩ | ⟨rfl, h⟩
  · obtain ⟨y, hy, hyx⟩ := id hx
    obtain ⟨p, q1, rfl⟩ := h.1.mem hy
    have hyx : p = x := hyx
    have hb := may_bd q1
    rw [wS, if_neg (by simp)]
    split
    · exact .inl ⟨rfl, h⟩
    split
    · exact .inl ⟨rfl, h⟩
    split
    · exact .inr ⟨rfl, px_cs hr h.px⟩
    rename_i h5 _
    refine .inl ⟨rfl, h.1, h.2.1, fun q hq => ?_⟩
    rcases List.mem_append.1 hq with hq | hq
    · exact h.2.2 q hq
    · rw [List.mem_singleton.1 hq]
      exact ⟨Classical.not_not.1 h5, by show 0 ≤ x; omega, hx⟩
  · rw [wS, if_pos rfl]; exact .inr ⟨rfl, h⟩
theorem ps_un {b : Bool} {p a d : Int} (hr : rt n f c u) (hW : ∀ p, mayb n f c u p = true → (W p).size = 64) (h : PS n f c u t e W E b l w) (hp : ¬ inE E p) (ha : -1 ≤ a) :
    ∃ (x0 x1 x2 : Int) (x3 : ByteArray) (code a' : Int) (b' : Bool) (d' : Int) (l' : List ByteArray) (w' : WL), unS n f c u (E.length : Int) t e p a b d l w = (x0, x1, x2, x3, code, a', b', d', l', w') ∧
      ((code ≠ 0 ∧ PS n f c u t e W E b' l' w') ∨ (code = 0 ∧ x0 = t ∧ x1 = e ∧ x2 = p ∧ x3 = W p ∧ (E.length : Int) < u ∧ PS n f c u t e W (E ++ [(t, (e, (p, W p)))]) b' l' w')) := by
  have hn := hr.1
  have hu := hr.2.2.2
  have hno := nodes_ok n f c u
  unfold unS
  rw [if_neg (fun hh => hh hr)]
  by_cases h1 : (E.length : Int) < 0 ∨ (E.length : Int) ≥ u
  · rw [if_pos h1]; exact ⟨_, _, _, _, _, _, _, _, _, _, rfl, .inl ⟨by decide, h⟩⟩
  rw [if_neg h1]
  by_cases h2 : mayb n f c u p = true
  rotate_left
  · rw [if_pos (by simpa using h2)]; exact ⟨_, _, _, _, _, _, _, _, _, _, rfl, .inl ⟨by decide, h⟩⟩
  rw [if_neg (by rw [h2]; simp)]
  have hb := may_bd h2
  rcases h with ⟨rfl, h⟩ | ⟨rfl, h⟩
  rotate_left
  · have : rd p true l w = (ByteArray.empty, 5) := by rw [rd, if_pos rfl]
    rw [this, if_pos (by simp)]
    exact ⟨_, _, _, _, _, _, _, _, _, _, rfl, .inl ⟨by decide, .inr ⟨rfl, h⟩⟩⟩
  have hlen := h.1.len
  have hrv : rd p false l w = (W p, 0) := by
    rw [rd_rv (by omega), rv, last_none w _ (fun q hq he => hp (by rw [← he]; exact (h.2.2 q hq).2.2))]
    rcases h.2.1 p h2 with h3 | h3
    · exact absurd h3 hp
    · rw [h3]
  rw [hrv]
  simp only
  rw [if_neg (by simp)]
  have hx1 : 0 ≤ 6 + n + nodes n f c u + (2 * (E.length : Int) + 1) ∧ 6 + n + nodes n f c u + (2 * (E.length : Int) + 1) < (l.length : Int) := by omega
  have hx2 : 0 ≤ 6 + n + nodes n f c u + 2 * (E.length : Int) ∧ 6 + n + nodes n f c u + 2 * (E.length : Int) < (l.length : Int) := by omega
  by_cases a0 : a = 0
  · have e1 : svS (6 + n + nodes n f c u + (2 * (E.length : Int) + 1)) (W p) a false d l w = (5, -1, true, d, l, w) := by
      have hw0 : wS (6 + n + nodes n f c u + (2 * (E.length : Int) + 1)) (W p) a false d l w = (5, -1, true, d, w) := by
        rw [wS, if_neg (by simp), if_neg (fun hh => hh hx1), if_neg (fun hh => hh (hW p h2)), if_pos a0]
      rw [svS, hw0, if_pos (by simp)]
    rw [e1, if_pos (by simp)]
    exact ⟨_, _, _, _, _, _, _, _, _, _, rfl, .inl ⟨by decide, .inr ⟨rfl, px_cs hr h.px⟩⟩⟩
  have hw1 : wS (6 + n + nodes n f c u + (2 * (E.length : Int) + 1)) (W p) a false d l w = (0, dec a, false, d + 1, w ++ [(6 + n + nodes n f c u + (2 * (E.length : Int) + 1), W p)]) := by
    rw [wS, if_neg (by simp), if_neg (fun hh => hh hx1), if_neg (fun hh => hh (hW p h2)), if_neg a0]
  have hpx : PSx n f c u t e W E l (w ++ [(6 + n + nodes n f c u + (2 * (E.length : Int) + 1), W p)]) := ⟨h.1, h.2.1, fun q hq => by
    rcases List.mem_append.1 hq with hq | hq
    · exact h.px.2.2 q hq
    · rw [List.mem_singleton.1 hq]; exact ⟨hW p h2, hx1.1, .inr rfl⟩⟩
  by_cases a1 : dec a = 0
  · have e1 : svS (6 + n + nodes n f c u + (2 * (E.length : Int) + 1)) (W p) a false d l w = (5, -1, true, d + 1, l, w ++ [(6 + n + nodes n f c u + (2 * (E.length : Int) + 1), W p)]) := by
      rw [svS, hw1, if_neg (by simp)]
      show fS (dec a) false (d + 1) l (w ++ [(6 + n + nodes n f c u + (2 * (E.length : Int) + 1), W p)]) = _
      rw [fS, if_neg (by simp), if_pos a1]
    rw [e1, if_pos (by simp)]
    exact ⟨_, _, _, _, _, _, _, _, _, _, rfl, .inl ⟨by decide, .inr ⟨rfl, px_cs hr hpx⟩⟩⟩
  have e1 : svS (6 + n + nodes n f c u + (2 * (E.length : Int) + 1)) (W p) a false d l w = (0, dec (dec a), false, d + 1 + 1, (w ++ [(6 + n + nodes n f c u + (2 * (E.length : Int) + 1), W p)]).foldl put1 l, []) := by
    rw [svS, hw1, if_neg (by simp)]
    show fS (dec a) false (d + 1) l (w ++ [(6 + n + nodes n f c u + (2 * (E.length : Int) + 1), W p)]) = _
    rw [fS, if_neg (by simp), if_neg a1]
  obtain ⟨k1, k2⟩ := px_flush hr hpx
  have k3 : ((w ++ [(6 + n + nodes n f c u + (2 * (E.length : Int) + 1), W p)]).foldl put1 l).getD (6 + n + nodes n f c u + (2 * (E.length : Int) + 1)).toNat ByteArray.empty = W p := by
    rw [List.foldl_append, List.foldl_cons, List.foldl_nil, put_get (show 0 ≤ ((6 + n + nodes n f c u + (2 * (E.length : Int) + 1), W p) : Int × ByteArray).1 from hx1.1) (by rw [puts_len]; omega), if_pos (by simp only; omega)]
  have k4 : ((w ++ [(6 + n + nodes n f c u + (2 * (E.length : Int) + 1), W p)]).foldl put1 l).length = l.length := puts_len _ _
  rw [e1]
  generalize (w ++ [(6 + n + nodes n f c u + (2 * (E.length : Int) + 1), W p)]).foldl put1 l = L at k1 k2 k3 k4 ⊢
  simp only
  rw [if_neg (by simp)]
  have hP0 : PSf n f c u t e W E L [] := ⟨k1, k2, fun q hq => by cases hq⟩
  have hsz := k1.sz
  have g : ∀ x : Nat, x < L.length → (put1 L (6 + n + nodes n f c u + 2 * (E.length : Int), uhB t e E.length p (crc (toInts (W p))))).getD x ByteArray.empty = if 6 + n + nodes n f c u + 2 * (E.length : Int) = (x : Int) then uhB t e E.length p (crc (toInts (W p))) else L.getD x ByteArray.empty :=
    fun x hx => put_get (p := (6 + n + nodes n f c u + 2 * (E.length : Int), uhB t e E.length p (crc (toInts (W p))))) hx2.1 hx
  have hP1 : PSf n f c u t e W (E ++ [(t, (e, (p, W p)))]) (put1 L (6 + n + nodes n f c u + 2 * (E.length : Int), uhB t e E.length p (crc (toInts (W p))))) [] := by
    have hm := k1.more hr (by omega) h2 (l' := put1 L (6 + n + nodes n f c u + 2 * (E.length : Int), uhB t e E.length p (crc (toInts (W p))))) (put1_len _ _) (fun x hx => by
        rw [put1_len] at hx
        rw [g x hx]
        split
        · exact uhB_size _ _ _ _ _
        · exact hsz x hx) (fun x hx _ _ h9 => by rw [g x hx, if_neg (fun hh => h9 hh.symm)])
      (by rw [g _ (by omega), if_pos (by omega)]) (by rw [g _ (by omega), if_neg (by omega)]; exact k3)
    refine ⟨by rw [List.length_append]; exact hm, fun p' hp' => ?_, fun q hq => by cases hq⟩
    have hb' := may_bd hp'
    rcases k2 p' hp' with ⟨y, hy, h5⟩ | h5
    · exact .inl ⟨y, List.mem_append_left _ hy, h5⟩
    · exact .inr (by rw [g _ (by omega), if_neg (by omega)]; exact h5)
  obtain ⟨g1, g2, g3, g4⟩ := svS_at (l := L) (a := dec (dec a)) (d := d + 1 + 1) (t := uhB t e E.length p (crc (toInts (W p)))) (by rw [k4]; exact hx2) (uhB_size _ _ _ _ _)
  by_cases c1 : dec (dec a) = -1
  · rw [g1 c1]
    exact ⟨_, _, _, _, _, _, _, _, _, _, if_neg (by simp), .inr ⟨rfl, rfl, rfl, rfl, rfl, by omega, .inl ⟨rfl, hP1⟩⟩⟩
  by_cases c2 : dec (dec a) = 0
  · rw [g2 c2]
    exact ⟨_, _, _, _, _, _, _, _, _, _, if_pos (by simp), .inl ⟨by decide, .inr ⟨rfl, px_cs hr hP0.px⟩⟩⟩
  by_cases c3 : dec (dec a) = 1
  · rw [g3 c3]
    refine ⟨_, _, _, _, _, _, _, _, _, _, if_pos (by simp), .inl ⟨by decide, .inr ⟨rfl, fun ks => ?_⟩⟩⟩
    rcases crB_one (ks := ks) (p := (6 + n + nodes n f c u + 2 * (E.length : Int), uhB t e E.length p (crc (toInts (W p))))) (l := L) with h5 | h5
    · exact ⟨E, .inl ⟨_, by rw [h5]; exact k1, by rw [h5]; exact k2⟩⟩
    · exact ⟨_, .inl ⟨_, by rw [h5]; exact hP1.1, by rw [h5]; exact hP1.2.1⟩⟩
  by_cases c4 : 2 ≤ dec (dec a)
  · rw [g4 c4]
    exact ⟨_, _, _, _, _, _, _, _, _, _, if_neg (by simp), .inr ⟨rfl, rfl, rfl, rfl, rfl, by omega, .inl ⟨rfl, hP1⟩⟩⟩
  · exfalso
    have hd : -1 ≤ dec a := by unfold dec; split <;> omega
    have : -1 ≤ dec (dec a) := by
      generalize dec a = z at a1 hd ⊢
      unfold dec; split <;> omega
    omega
end
end
end Go.Proofs.YtlgopekjjkdkiaaGreatDoor.X
end
section
namespace Go.Proofs.YtlgopekjjkdkiaaGreatDoor.X
open Go Go.Proofs.YtlgopekjjkdkiaaGreatDoor.Ev Go.Proofs
set_option linter.unusedVariables false
set_option linter.unusedSectionVars false
section
variable [FZ]
end
end Go.Proofs.YtlgopekjjkdkiaaGreatDoor.X
end
section
namespace Go.Proofs.YtlgopekjjkdkiaaGreatDoor.X
open Go Go.Proofs.YtlgopekjjkdkiaaGreatDoor.Ev
set_option linter.unusedSectionVars false
set_option linter.unusedVariables false
set_option linter.unusedSimpArgs false
section
variable [FZ]
theorem cloneW {β : Type} {F : Nat} {w : WL} (hw : w.length ≤ 6000) {K : WL → Option β} : f78_1 F w K = K w := by
  rw [f78_1, ct (show (0 + w.length) * 24 ≤ 70368744177664 by omega), List.nil_append]
  by_cases h : 0 < w.length
  · rw [ct h]
  · have : w = [] := List.length_eq_zero_iff.1 (by omega)
    rw [cf h]; subst this; exact amb_self _
end
end Go.Proofs.YtlgopekjjkdkiaaGreatDoor.X
end
section
namespace Go.Proofs.YtlgopekjjkdkiaaGreatDoor.X
open Go Go.Proofs.YtlgopekjjkdkiaaGreatDoor.Ev Go.Proofs
set_option linter.unusedVariables false
set_option linter.unusedSectionVars false
section
variable [FZ]
end
section
variable [FZ]
end
end Go.Proofs.YtlgopekjjkdkiaaGreatDoor.X
end
section
namespace Go.Proofs.YtlgopekjjkdkiaaGreatDoor.X
open Go Go.Proofs.YtlgopekjjkdkiaaGreatDoor.Ev
set_option linter.unusedSectionVars false
set_option linter.unusedVariables false
set_option linter.unusedSimpArgs false
section
variable [FZ]
theorem DS.new {m : Nat} (h2 : m ≤ 1200) : DS m 0 (-1) 0 (List.replicate m Z64) [] :=
  ⟨by omega, by omega, by simp, by simp, fun p hp => (by cases hp), by omega, by omega⟩
end
section
variable [FZ]
set_option maxRecDepth 100000 in
theorem known16 {β : Type} {K : Bool → Option β} : f22_1 20000 K = K true := by kernel_rfl
set_option maxRecDepth 100000 in
theorem head16 {β : Type} {k0 k1 : Option β} : f38_1 20000 7 ByteArray.empty 0 0 ByteArray.empty (fun x => cond ((x.size : Int) == 64) k0 k1) = k0 := by kernel_rfl
theorem sizeT {β : Type} {n f c u : Int} (h : rt n f c u) {K : Int → Option β} : f23_1 20000 n f c u 1 K = K (6 + n + nodes n f c u + 2 * u) := by
  have hn := h.1
  have hu := h.2.2.2
  have hno := nodes_ok n f c u
  rw [f23_1, f84_1, show ((1 : Int) == 0) = false from rfl, cond_false, show ((1 : Int) == 1) = true from rfl, cond_true, right47, decide_eq_true h, Bool.not_true, cond_false, w64 (x := 2 * u) (by omega) (by omega), cf (by omega), nodes51, w64 (x := 6 + n) (by omega) (by omega), w64 (x := 6 + n + nodes n f c u) (by omega) (by omega), w64 (by omega) (by omega)]
def flB (v : Int) : ByteArray := ofInts (List.replicate 64 v)
theorem flB_size (v : Int) : (flB v).size = 64 := by rw [flB, oi_size]; simp
theorem flL {β : Type} {F : Nat} {v : Int} {K : List Int → Option β} : ∀ (m i k : Nat), i + m = 64 → m < k → f26_1_l3 F v K k (i : Int) (List.replicate i v) = K (List.replicate 64 v)
  | 0, i, k, hi, hk => by
    obtain ⟨k, rfl⟩ : ∃ j, k = j + 1 := ⟨k - 1, by omega⟩
    rw [f26_1_l3, cf (by omega), show i = 64 by omega]
  | m + 1, i, k, hi, hk => by
    obtain ⟨k, rfl⟩ : ∃ j, k = j + 1 := ⟨k - 1, by omega⟩
    rw [f26_1_l3, ct (by omega), ct (by simp; omega), w64 (by omega) (by omega), show ((i : Int) + 1) = ((i + 1 : Nat) : Int) by omega, ← List.replicate_succ']
    exact flL m (i + 1) k (by omega) (by omega)
theorem flP {β : Type} {v : Int} {K : ByteArray → Option β} : f26_1 20000 v K = K (flB v) := by
  rw [f26_1]
  exact flL (K := fun x => K (ofInts x)) 64 0 20000 (by omega) (by omega)
theorem data07 {β : Type} {n f c u i : Int} (h : rt n f c u) (hi : 0 ≤ i ∧ i < n) {K : Int → Option β} : f25_1 20000 n f c u i K = K (6 + i) := by
  have hn := h.1
  rw [f25_1, right47, decide_eq_true h, Bool.not_true, cond_false, cf (by omega), cf (by omega), w64 (by omega) (by omega)]
theorem cloneS {β : Type} {F : Nat} {l : List ByteArray} {K : List ByteArray → Option β} (hl : l.length ≤ 100000) : f87_1 F l K = K l := by
  simp only [f87_1, List.nil_append]
  by_cases h : 0 < l.length
  · rw [ct h, ct (by omega)]
  · have : l = [] := List.length_eq_zero_iff.1 (by omega)
    subst this
    rw [cf h, ct (by simp), amb_self]
noncomputable def Wf (n : Int) (p : Int) : ByteArray := if p < 6 + n then flB (p - 6 + 1) else Z64
theorem Wf_size (n p : Int) : (Wf n p).size = 64 := by
  unfold Wf; split
  · exact flB_size _
  · exact Z64_size
theorem DS.up {m q q' : Nat} {a d : Int} {l : List ByteArray} {w : WL} (h : DS m q a d l w) (hk : q ≤ q') (hk' : q' ≤ 6000) : DS m q' a d l w := ⟨h.n40, hk', h.len, by have := h.wl; omega, h.wb, h.ar, by have := h.cr; omega⟩
section
variable {n f c u : Int} {M : Nat} {A : WL} {Bs : List (Int × Sl .bool)}
theorem DSw (hr : rt n f c u) (hM : (M : Int) = 6 + n + nodes n f c u + 2 * u) (hM2 : M ≤ 2000) {q : Nat} {a d : Int} {l : List ByteArray} {w : WL} (hl : l.length = M) (hw : wW n f c u (Wf n) w) (hq : w.length ≤ q) (hq6 : q ≤ 6000) (ha : -1 ≤ a ∧ a ≤ 9223372036854775807) (hd : 0 ≤ d ∧ d ≤ q) : DS M q a d l w :=
  ⟨hM2, hq6, hl, hq, fun p hp => by have := may_bd (hw p hp).1; have := hr.2.2.2; omega, ha, hd⟩
theorem fillsL {β : Type} (hr : rt n f c u) (h20 : n ≤ 20) (hM : (M : Int) = 6 + n + nodes n f c u + 2 * u) (hM2 : M ≤ 2000) {l : List ByteArray} (hl : l.length = M) {K0 : Int → Bool → Int → WL → Option β} {r0 : Option β}
    (hK : ∀ w, wW n f c u (Wf n) w → (∀ x : Int, 0 ≤ x → x < n → ∃ q ∈ w, q.1 = 6 + x) → w.length ≤ 20 → K0 (-1) false n w = r0) :
    ∀ (j i k : Nat) (w : WL), ((i + j : Nat) : Int) = n → j < k → wW n f c u (Wf n) w → (∀ x : Int, 0 ≤ x → x < i → ∃ q ∈ w, q.1 = 6 + x) → w.length = i →
      f5_1_l5_2 20000 A Bs n f c u l K0 k (i : Int) (-1) false (i : Int) w = r0
  | _, _, 0, _, _, h, _, _, _ => by omega
  | 0, i, k + 1, w, hi, _, hw, hc, hwl => by
    rw [f5_1_l5_2, cf (by omega), show ((i : Nat) : Int) = n by omega]
    exact hK w hw (fun x h1 h2 => hc x h1 (by omega)) (by omega)
  | j + 1, i, k + 1, w, hi, hk, hw, hc, hwl => by
    have hn := hr.1
    have hu := hr.2.2.2
    have hno := nodes_ok n f c u
    rw [f5_1_l5_2, ct (by omega), data07 hr (by omega), w64 (x := (i : Int) + 1) (by omega) (by omega), wu8 (x := (i : Int) + 1) (by omega) (by omega), flP, writeP (DSw hr hM hM2 hl hw (q := i) (by omega) (by omega) (by omega) (by omega)), wS_free (by omega) (flB_size _)]
    have hWi : Wf n (6 + (i : Int)) = flB ((i : Int) + 1) := by rw [Wf, if_pos (by omega), show 6 + (i : Int) - 6 + 1 = (i : Int) + 1 by omega]
    have ih := fillsL hr h20 hM hM2 hl hK j (i + 1) k (w ++ [(6 + (i : Int), flB ((i : Int) + 1))]) (by omega) (by omega) (fun q hq => by
      rcases List.mem_append.1 hq with hq | hq
      · exact hw q hq
      · rw [List.mem_singleton.1 hq]; exact ⟨decide_eq_true ⟨by show 6 ≤ 6 + (i : Int); omega, by show 6 + (i : Int) < _; omega⟩, hWi.symm⟩) (fun x h1 h2 => by
      by_cases hx : x < i
      · obtain ⟨q, q1, q2⟩ := hc x h1 hx; exact ⟨q, by simp [q1], q2⟩
      · exact ⟨(6 + (i : Int), flB ((i : Int) + 1)), by simp, by show 6 + (i : Int) = 6 + x; omega⟩) (by simp [hwl])
    push_cast at ih
    exact ih
theorem actsL {β : Type} (hr : rt n f c u) (hM : (M : Int) = 6 + n + nodes n f c u + 2 * u) (h40 : u ≤ 40) (hA : A.length ≤ 40) {y1 y3 : Int} {y2 : Bool} {y4 : List ByteArray} {y5 : WL} {K0 : Int → Bool → Int → List ByteArray → WL → EL → Option β} {r0 : Option β}
    (hK : ∀ a b d l w E, DS M 300 a d l w → SZ l w → CS n f c u 3 2 (Wf n) l w → K0 a b d l w E = r0) :
    ∀ (r : WL) (i k : Nat) (a : Int) (b : Bool) (d : Int) (l : List ByteArray) (w : WL) (E : EL), A.drop i = r → i ≤ A.length → r.length < k → DS M (40 + 5 * i) a d l w → SZ l w → PS n f c u 3 2 (Wf n) E b l w → (E.length : Int) ≤ u →
      f5_1_l14_2 20000 A Bs n f c u y1 y2 y3 y4 y5 K0 k (i : Int) a b d l w E = r0
  | [], i, 0, _, _, _, _, _, _, _, _, hk, _, _, _, _ => by simp at hk
  | _ :: _, i, 0, _, _, _, _, _, _, _, _, hk, _, _, _, _ => by simp at hk
  | [], i, k + 1, a, b, d, l, w, E, hd, hi, _, hD, hz, hp, hE => by
    have := len_of_drop_nil hd hi
    rw [f5_1_l14_2, cf (by omega)]
    exact hK a b d l w E (hD.up (by omega) (by omega)) hz (hp.cs hr)
  | x :: r, i, k + 1, a, b, d, l, w, E, hd, hi, hk, hD, hz, hp, hE => by
    obtain ⟨h1, h2, h3⟩ := getD_of_drop (d := ((0, ByteArray.empty) : Int × ByteArray)) hd
    have go : ∀ (a : Int) (b : Bool) (d : Int) (l : List ByteArray) (w : WL) (E : EL), DS M (40 + 5 * i + 5) a d l w → SZ l w → PS n f c u 3 2 (Wf n) E b l w → (E.length : Int) ≤ u →
        f5_1_l14_2 20000 A Bs n f c u y1 y2 y3 y4 y5 K0 k ((i : Int) + 1) a b d l w E = r0 := fun a b d l w E g1 g2 g3 g4 => by
      have ih := actsL (y1 := y1) (y2 := y2) (y3 := y3) (y4 := y4) (y5 := y5) hr hM h40 hA hK r (i + 1) k a b d l w E h3 (by omega) (by simp at hk; omega) (g1.up (by omega) (by omega)) g2 g3 g4
      push_cast at ih
      exact ih
    rw [f5_1_l14_2, ct (by omega), ct (by omega), ct (by omega), h2, fndQ (by omega), w64 (x := (i : Int) + 1) (by omega) (by omega)]
    by_cases hf : (fnd x.1 E).2 = true
    · have hin : inE E x.1 := fnd_iff.1 hf
      rw [hf, Bool.not_true, cond_false, cond_false, ct (by omega), ct (by omega), ct (by omega), ct (by omega), writeP hD]
      exact go _ _ _ _ _ _ ((wS_ok hD (by omega)).up (by omega) (by omega)) hz.wS (ps_wr hr hp hin) hE
    · have hin : ¬ inE E x.1 := fun hh => hf (fnd_iff.2 hh)
      have hf' : (fnd x.1 E).2 = false := by simpa using hf
      obtain ⟨x0, x1, x2, x3, code, a', b', d', l', w', e1, e2⟩ := ps_un (p := x.1) (a := a) (d := d) hr (fun p _ => Wf_size n p) hp hin hD.ar.1
      have hok := unS_ok (n := n) (f := f) (c := c) (u := u) (k := (E.length : Int)) (t := 3) (e := 2) (p := x.1) (b := b) hD (by omega) hz
      rw [e1] at hok
      obtain ⟨ok1, ok2⟩ := hok
      rw [hf', Bool.not_false, cond_true, ct (by omega), ct (by omega), unP hD (by omega) (hz.rd b _), app10, e1]
      simp only
      rcases e2 with ⟨q1, q2⟩ | ⟨q1, q2, q3, q4, q5, q6, q7⟩
      · rw [bnt q1, cond_true]
        exact go _ _ _ _ _ _ (ok1.up (by omega) (by omega)) ok2 q2 hE
      · rw [bnf q1, cond_false, cond_true, ct (by omega), ct (by omega), ct (by omega), ct (by omega), ct (by omega), q2, q3, q4, q5, writeP ok1]
        exact go _ _ _ _ _ _ ((wS_ok ok1 (by omega)).up (by omega) (by omega)) ok2.wS (ps_wr hr q7 ⟨_, List.mem_append_right _ (List.mem_singleton.2 rfl), rfl⟩) (by simp; omega)
theorem rolls {β : Type} (hr : rt n f c u) (hM : (M : Int) = 6 + n + nodes n f c u + 2 * u) (hM2 : M ≤ 2000) (h40 : u ≤ 40) {l : List ByteArray} {E : EL} {a d : Int} {q : Nat} (hR : Rb n f c u 3 2 (Wf n) E l) (hz : SZ l []) (ha : -1 ≤ a ∧ a ≤ 9223372036854775807) (hq : q ≤ 900) (hd : 0 ≤ d ∧ d ≤ q) {K : Int → Int → Int → Bool → Int → List ByteArray → WL → Option β} :
    f34_1 20000 n f c u 1 a false d l [] (fun x y => f35_1 20000 n f c u a false d l [] y (K x)) = app (K 0) (bkS n f c u E a false d l []) ∧ DS M (q + 45) (bkS n f c u E a false d l []).2.1 (bkS n f c u E a false d l []).2.2.2.1 (bkS n f c u E a false d l []).2.2.2.2.1 (bkS n f c u E a false d l []).2.2.2.2.2 ∧ SZ (bkS n f c u E a false d l []).2.2.2.2.1 (bkS n f c u E a false d l []).2.2.2.2.2 ∧ (E.length : Int) ≤ u := by
  have hu := hr.2.2.2
  have hlen := hR.len
  have hel := hR.el (by omega)
  have hD : DS M q a d l [] := ⟨hM2, by omega, by omega, by simp, fun p hp => (by cases hp), ha, hd⟩
  have hs : ∀ x, (rd x false l []).1.size ≤ 100 := fun x => hz.rd false x
  have hb := bkS_ok (n := n) (f := f) (c := c) (u := u) (E := E) (b := false) hD hz (by omega)
  refine ⟨?_, hb.1.up (by omega) (by omega), hb.2, hel⟩
  rw [usGP hD hs, hR.scan hr (by omega) (by omega) (by omega)]
  show f35_1 20000 n f c u a false d l [] E (K 0) = _
  rw [bkP hD (by omega) (by omega)]
theorem crashL {β : Type} (hr : rt n f c u) (hM : (M : Int) = 6 + n + nodes n f c u + 2 * u) (hM2 : M ≤ 2000) (h40 : u ≤ 40) (hB : Bs.length ≤ 6) (hwf : ∀ x ∈ Bs, x.1 ≤ 9223372036854775807) {y1 y3 : Int} {y2 : Bool} {y4 : List ByteArray} {y5 : WL} {K0 : Int → Bool → Int → List ByteArray → WL → Option β} {r0 : Option β}
    (hK : ∀ a b d l w, DS M 800 a d l w → SZ l w → CS n f c u 3 2 (Wf n) l w → K0 a b d l w = r0) :
    ∀ (r : List (Int × Sl .bool)) (i k : Nat) (a : Int) (b : Bool) (d : Int) (l : List ByteArray) (w : WL), Bs.drop i = r → i ≤ Bs.length → r.length < k → DS M (300 + 50 * i) a d l w → SZ l w → CS n f c u 3 2 (Wf n) l w →
      f5_1_l25_2 20000 A Bs n f c u y1 y2 y3 y4 y5 K0 k (i : Int) a b d l w = r0
  | [], i, 0, _, _, _, _, _, _, _, hk, _, _, _ => by simp at hk
  | _ :: _, i, 0, _, _, _, _, _, _, _, hk, _, _, _ => by simp at hk
  | [], i, k + 1, a, b, d, l, w, hd, hi, _, hD, hz, hc => by
    have := len_of_drop_nil hd hi
    rw [f5_1_l25_2, cf (by omega)]
    exact hK a b d l w (hD.up (by omega) (by omega)) hz hc
  | x :: r, i, k + 1, a, b, d, l, w, hd, hi, hk, hD, hz, hc => by
    obtain ⟨h1, h2, h3⟩ := getD_of_drop (d := ((0, Sl.nil .bool) : Int × Sl .bool)) hd
    have hcr := hD.cr
    have go : ∀ (a : Int) (b : Bool) (d : Int) (l : List ByteArray) (w : WL), DS M (300 + 50 * i + 45) a d l w → SZ l w → CS n f c u 3 2 (Wf n) l w →
        f5_1_l25_2 20000 A Bs n f c u y1 y2 y3 y4 y5 K0 k ((i : Int) + 1) a b d l w = r0 := fun a b d l w g1 g2 g3 => by
      have ih := crashL (y1 := y1) (y2 := y2) (y3 := y3) (y4 := y4) (y5 := y5) hr hM hM2 h40 hB hwf hK r (i + 1) k a b d l w h3 (by omega) (by simp at hk; omega) (g1.up (by omega) (by omega)) g2 g3
      push_cast at ih
      exact ih
    obtain ⟨E, hR⟩ := hc x.2.dat
    have hz' := hz.crash (ks := x.2.dat) w 0 l
    rw [f5_1_l25_2, ct (by omega), ct (by omega), ct (by omega), h2, crashP (by omega) hD, f33_1, Bool.not_true, cond_false, w64 (x := (i : Int) + 1) (by omega) (by omega)]
    by_cases hnx : (i : Int) + 1 < ((Bs.length : Nat) : Int)
    · have hm : (Bs.getD (0 + ((i : Int) + 1).toNat) (0, Sl.nil .bool)) ∈ Bs := by
        rw [List.getD_eq_getElem?_getD, List.getElem?_eq_getElem (by omega)]; exact List.getElem_mem _
      have hz1 := hwf _ hm
      rw [ct hnx, ct (by omega), ct (by omega), f29_1]
      generalize hz2 : (if (-1) > (Bs.getD (0 + ((i : Int) + 1).toNat) (0, Sl.nil .bool)).1 then (-1 : Int) else (Bs.getD (0 + ((i : Int) + 1).toNat) (0, Sl.nil .bool)).1) = z
      have hz3 : -1 ≤ z ∧ z ≤ 9223372036854775807 := by rw [← hz2]; split <;> omega
      obtain ⟨g1, g2, g3, g4⟩ := rolls (q := 300 + 50 * i) (a := z) (d := d) hr hM hM2 h40 hR hz' hz3 (by omega) (by omega) (K := fun _ x183 x184 x185 x186 x187 x188 => f5_1_l25_2 20000 A Bs n f c u y1 y2 y3 y4 y5 K0 k ((i : Int) + 1) x184 x185 x186 x187 x188)
      refine g1.trans ?_
      exact go _ _ _ _ _ g2 g3 (bk_ok hr hR (fun p _ => Wf_size n p) hz3.1).1
    · rw [cf hnx]
      obtain ⟨g1, g2, g3, g4⟩ := rolls (q := 300 + 50 * i) (a := -1) (d := d) hr hM hM2 h40 hR hz' (by omega) (by omega) (by omega) (K := fun _ x183 x184 x185 x186 x187 x188 => f5_1_l25_2 20000 A Bs n f c u y1 y2 y3 y4 y5 K0 k ((i : Int) + 1) x184 x185 x186 x187 x188)
      refine g1.trans ?_
      exact go _ _ _ _ _ g2 g3 (bk_ok hr hR (fun p _ => Wf_size n p) (by omega)).1
theorem cmpL {β : Type} (hr : rt n f c u) (h20 : n ≤ 20) {s1 s2 : Int} {a d a' d' : Int} {q q' : Nat} {l l' : List ByteArray} (hD : DS M q a d l []) (hD' : DS M q' a' d' l' []) (hl : l.length = M) (hl' : l'.length = M) (hM : (M : Int) = 6 + n + nodes n f c u + 2 * u)
    (he : ∀ p, mayb n f c u p = true → l.getD p.toNat ByteArray.empty = l'.getD p.toNat ByteArray.empty) {K0 K1 : Option β} :
    ∀ (j i k : Nat), ((i + j : Nat) : Int) = n + nodes n f c u → j < k → f5_1_l38_2 20000 s1 s2 A Bs n f c u a false d l [] a' false d' l' [] K0 K1 k (i : Int) = K1
  | _, _, 0, _, h => by omega
  | 0, i, k + 1, hi, _ => by
    have hn := hr.1
    have hno := nodes_ok n f c u
    rw [f5_1_l38_2, nodes51, w64 (x := n + nodes n f c u) (by omega) (by omega), cf (by omega)]
  | j + 1, i, k + 1, hi, hk => by
    have hn := hr.1
    have hu := hr.2.2.2
    have hno := nodes_ok n f c u
    rw [f5_1_l38_2, nodes51, w64 (x := n + nodes n f c u) (by omega) (by omega), ct (by omega), w64 (x := 6 + (i : Int)) (by omega) (by omega), readP (by omega) hD, readP (by omega) hD', rd_nil' (by omega), rd_nil' (by omega), he (6 + (i : Int)) (decide_eq_true ⟨by omega, by omega⟩)]
    show cond (!((l'.getD (6 + (i : Int)).toNat ByteArray.empty).toList == (l'.getD (6 + (i : Int)).toNat ByteArray.empty).toList)) _ _ = _
    rw [beq_self_eq_true, Bool.not_true, cond_false, w64 (x := (i : Int) + 1) (by omega) (by omega)]
    have ih := cmpL hr h20 (s1 := s1) (s2 := s2) (K0 := K0) (K1 := K1) hD hD' hl hl' hM he j (i + 1) k (by omega) (by omega)
    push_cast at ih
    exact ih
end
theorem law_true {β : Type} (n f c u : Int) (A : List (Int × ByteArray)) (Bs : List (Int × (Sl .bool))) {q1 q2 q3 q4 q5 q6 : Prop} (_ : q1) (_ : q2) (_ : q3) (_ : q4) (_ : q5) (_ : ∀ x ∈ A, (Lit.int .i64 x.1).wf = true ∧ x.2.size ≤ maxLen) (_ : q6) (hw0 : ∀ x ∈ Bs, (Lit.int .i64 x.1).wf = true ∧ (x.2.dat.length ≤ maxLen ∧ ∀ y ∈ x.2.dat, wfS .bool y)) (r0 : β) :
    ∃ F, f5_1 F n f c u A Bs (fun b => cond b (some r0) none) = some r0 := by
  refine ⟨20000, ?_⟩
  have hwf : ∀ x ∈ Bs, x.1 ≤ 9223372036854775807 := fun x hx => (i64_of_wf (hw0 x hx).1).2
  rw [f5_1, right47]
  by_cases hr : rt n f c u
  rotate_left
  · rw [decide_eq_false hr, Bool.not_false, cond_true, known16]; rfl
  have hn := hr.1
  have hu := hr.2.2.2
  have hno := nodes_ok n f c u
  have hup := nodes_up hr
  rw [decide_eq_true hr, Bool.not_true, cond_false]
  by_cases h1 : n > 20
  · rw [ct h1, known16]; rfl
  by_cases h2 : u > 40
  · rw [cf h1, ct h2, known16]; rfl
  by_cases h3 : ((A.length : Nat) : Int) > 40
  · rw [cf h1, cf h2, ct h3, known16]; rfl
  by_cases h4 : ((Bs.length : Nat) : Int) > 6
  · rw [cf h1, cf h2, cf h3, ct h4, known16]; rfl
  obtain ⟨M, hM⟩ : ∃ M : Nat, (M : Int) = 6 + n + nodes n f c u + 2 * u := ⟨(6 + n + nodes n f c u + 2 * u).toNat, by omega⟩
  rw [cf h1, cf h2, cf h3, cf h4, sizeT hr, ← hM, newP (by omega) (by omega)]
  have hl0 : (List.replicate M Z64).length = M := List.length_replicate
  obtain ⟨N, hN⟩ : ∃ N : Nat, (N : Int) = n := ⟨n.toNat, by omega⟩
  refine fillsL (M := M) hr (by omega) hM (by omega) hl0 ?_ N 0 20000 [] (by omega) (by omega) (fun q hq => by cases hq) (fun x h5 h6 => by omega) rfl
  intro w hw hc hwl
  have hDw : DS M 30 (-1) n (List.replicate M Z64) w := DSw hr hM (by omega) hl0 hw (by omega) (by omega) (by omega) (by omega)
  have hfl : fS (-1) false n (List.replicate M Z64) w = (0, -1, false, n + 1, w.foldl put1 (List.replicate M Z64), []) := by rw [fS, if_neg (by simp), if_neg (by omega)]; rfl
  have hg := puts_get w (List.replicate M Z64) (wW_in hr hw)
  have hlL : (w.foldl put1 (List.replicate M Z64)).length = M := by rw [puts_len, hl0]
  have h0 : ∀ x : Nat, x < M → (List.replicate M Z64).getD x ByteArray.empty = Z64 := fun x hx => by rw [List.getD_eq_getElem?_getD, List.getElem?_replicate, if_pos hx]; rfl
  have hz0 : SZ (w.foldl put1 (List.replicate M Z64)) [] := by
    have hz : SZ (List.replicate M Z64) [] := ⟨fun s hs => by rw [List.eq_of_mem_replicate hs]; exact Z64_size, fun p hp => by cases hp⟩
    exact SZ.puts w _ (fun q hq => by rw [(hw q hq).2]; exact Wf_size _ _) hz
  rw [flushP (by omega) hDw, hfl]
  simp only
  have hdat : ∀ p, mayb n f c u p = true → (w.foldl put1 (List.replicate M Z64)).getD p.toNat ByteArray.empty = Wf n p := fun p hp => by
    have hb := may_bd hp
    rcases hg p.toNat (by omega) with ⟨g1, g2⟩ | ⟨q, q1, q2, q3⟩
    · rw [g1, h0 _ (by omega), Wf, if_neg]
      intro h7
      obtain ⟨q, q1, q2⟩ := hc (p - 6) (by omega) (by omega)
      exact g2 q q1 (by omega)
    · rw [q3, (hw q q1).2, q2, show ((p.toNat : Nat) : Int) = p by omega]
  have hlog : ∀ x : Nat, x < M → 6 + n + nodes n f c u ≤ (x : Int) → (w.foldl put1 (List.replicate M Z64)).getD x ByteArray.empty = Z64 := fun x hx hx6 => by
    rcases hg x (by omega) with ⟨g1, g2⟩ | ⟨q, q1, q2, q3⟩
    · rw [g1, h0 _ hx]
    · have := may_bd (hw q q1).1; omega
  have hsz0 : ∀ x : Nat, x < (w.foldl put1 (List.replicate M Z64)).length → ((w.foldl put1 (List.replicate M Z64)).getD x ByteArray.empty).size = 64 := fun x hx => by
    rcases hg x (by omega) with ⟨g1, g2⟩ | ⟨q, q1, q2, q3⟩
    · rw [g1, h0 _ (by omega)]; exact Z64_size
    · rw [q3, (hw q q1).2]; exact Wf_size _ _
  generalize w.foldl put1 (List.replicate M Z64) = L at *
  have hK0 : KL n f c u 3 2 (Wf n) 0 [] L := ⟨by omega, hsz0, rfl, by omega, fun j hj => by omega, fun j hj hju => hlog _ (by omega) (by omega)⟩
  have hP : PS n f c u 3 2 (Wf n) [] false L [] := .inl ⟨rfl, hK0, fun p hp => .inr (hdat p hp), fun q hq => by cases hq⟩
  have hDL : ∀ a, -1 ≤ a ∧ a ≤ 9223372036854775807 → DS M 40 a (n + 1) L [] := fun a ha => ⟨by omega, by omega, hlL, by simp, fun p hp => (by cases hp), ha, by omega⟩
  rw [f28_1, cloneS (by omega), cloneW (by simp)]
  -- behind the crashes
  have fin : ∀ (a : Int) (b : Bool) (d : Int) (l : List ByteArray) (w : WL), DS M 800 a d l w → SZ l w → CS n f c u 3 2 (Wf n) l w →
      f32_1 20000 a b d l w [] (fun x202 x203 => f33_1 20000 (-1) true d x202 x203 (fun x204 x205 x206 x207 => f34_1 20000 n f c u 1 x205 x206 d x202 x207 (fun x208 x209 => f35_1 20000 n f c u x205 x206 d x202 x207 x209 (fun x210 x211 x212 x213 x214 x215 => f5_1_l38_2 20000 x208 x210 A Bs n f c u x211 x212 x213 x214 x215 (-1) false (n + 1) L [] (cond false (some r0) none) (f34_1 20000 n f c u 1 x211 x212 x213 x214 x215 (fun x240 x241 => cond (x208 == 0) (cond (x210 == 0) (cond (x240 == 0) (cond (((x241.length : Nat) : Int) == 0) (f38_1 20000 7 ByteArray.empty 0 0 ByteArray.empty (fun x242 => cond ((x242.size : Int) == 64) (f22_1 20000 (fun x243 => cond x243 (some r0) none)) (cond false (some r0) none))) (cond false (some r0) none)) (cond false (some r0) none)) (cond false (some r0) none)) (cond false (some r0) none))) 20000 0)))) = some r0 := by
    intro a b d l w hD hz hc
    have hcr := hD.cr
    obtain ⟨E, hR⟩ := hc []
    have hz' := hz.crash (ks := []) w 0 l
    rw [crashP (by omega) hD, f33_1, Bool.not_true, cond_false]
    generalize crB [] 0 w l = l1 at hR hz'
    obtain ⟨g1, g2, g3, g4⟩ := rolls (q := 800) (a := -1) (d := d) hr hM (by omega) (by omega) hR hz' (by omega) (by omega) (by omega) (K := fun x208 x210 x211 x212 x213 x214 x215 => f5_1_l38_2 20000 x208 x210 A Bs n f c u x211 x212 x213 x214 x215 (-1) false (n + 1) L [] (cond false (some r0) none) (f34_1 20000 n f c u 1 x211 x212 x213 x214 x215 (fun x240 x241 => cond (x208 == 0) (cond (x210 == 0) (cond (x240 == 0) (cond (((x241.length : Nat) : Int) == 0) (f38_1 20000 7 ByteArray.empty 0 0 ByteArray.empty (fun x242 => cond ((x242.size : Int) == 64) (f22_1 20000 (fun x243 => cond x243 (some r0) none)) (cond false (some r0) none))) (cond false (some r0) none)) (cond false (some r0) none)) (cond false (some r0) none)) (cond false (some r0) none))) 20000 0)
    refine g1.trans ?_
    obtain ⟨d', l', e1, hS⟩ := (bk_ok (d := d) (a := -1) hr hR (fun p _ => Wf_size n p) (by omega)).2 rfl
    rw [e1] at g2 g3 ⊢
    have g2 : DS M (800 + 45) (-1) d' l' [] := g2
    have hl' := g2.len
    rw [app]
    show f5_1_l38_2 20000 0 0 A Bs n f c u (-1) false d' l' [] (-1) false (n + 1) L [] _ _ 20000 ((0 : Nat) : Int) = _
    obtain ⟨NN, hNN⟩ : ∃ NN : Nat, (NN : Int) = n + nodes n f c u := ⟨(n + nodes n f c u).toNat, by omega⟩
    rw [cmpL hr (by omega) g2 (hDL (-1) (by omega)) hl' hlL hM (fun p hp => by rw [hS.dat p hp, hdat p hp]) NN 0 20000 (by omega) (by omega), usGP g2 (fun x => SZ.rd g3 false x), hS.scan hr]
    show cond ((0 : Int) == 0) (cond ((0 : Int) == 0) (cond ((0 : Int) == 0) (cond (((([] : EL).length : Nat) : Int) == 0) _ _) _) _) _ = _
    rw [beq_self_eq_true, cond_true, cond_true, cond_true, show (((([] : EL).length : Nat) : Int) == 0) = true from rfl, cond_true, head16, known16]; rfl
  -- from the first act on
  have run : ∀ a, -1 ≤ a ∧ a ≤ 9223372036854775807 → ∀ {K0 : Int → Bool → Int → List ByteArray → WL → Option β}, (∀ (a : Int) (b : Bool) (d : Int) (l : List ByteArray) (w : WL), DS M 800 a d l w → SZ l w → CS n f c u 3 2 (Wf n) l w → K0 a b d l w = some r0) →
      f5_1_l14_2 20000 A Bs n f c u (-1) false (n + 1) L [] (fun x151 x152 x153 x154 x155 x156 => f5_1_l25_2 20000 A Bs n f c u (-1) false (n + 1) L [] K0 20000 0 x151 x152 x153 x154 x155) 20000 0 a false (n + 1) L [] [] = some r0 := fun a ha K0 hK0 =>
    actsL (M := M) hr hM (by omega) (by omega) (fun a b d l w E hD hz hc => crashL (M := M) hr hM (by omega) (by omega) (by omega) hwf hK0 Bs 0 20000 a b d l w rfl (by omega) (by omega) hD hz hc) A 0 20000 a false (n + 1) L [] [] rfl (by omega) (by omega) (hDL a ha) hz0 hP (by simp; omega)
  by_cases hb : ((Bs.length : Nat) : Int) > 0
  · have hm : (Bs.getD 0 (0, Sl.nil .bool)) ∈ Bs := by
      rw [List.getD_eq_getElem?_getD, List.getElem?_eq_getElem (by omega)]; exact List.getElem_mem _
    have hz1 := hwf _ hm
    rw [ct hb, ct (by omega), ct (by omega), f29_1]
    exact run _ (by split <;> omega) fin
  · rw [cf hb]
    exact run _ (by omega) fin
end
end Go.Proofs.YtlgopekjjkdkiaaGreatDoor.X
end