/- Merged: RecV, PureRecVolumes. -/
import Derived.Test.YtillbabmlfjegaaDoorMRecVolumesCard4
section
/- The law: volumes as sectors. -/
namespace Go.Proofs.YtillbabmlfjegaaDoor.X
open Go Go.Proofs.YtillbabmlfjegaaDoor.Ev
set_option linter.unusedSectionVars false
variable [FZ]
set_option linter.unusedVariables false
set_option linter.unusedSimpArgs false

theorem known08 {β : Type} {K : Bool → Option β} : f12_1 20000 K = K true := by kernel_rfl

def rt (n f c u : Int) : Prop := (1 ≤ n ∧ n ≤ 128) ∧ (2 ≤ f ∧ f ≤ 4) ∧ (0 ≤ c ∧ c ≤ 64) ∧ (1 ≤ u ∧ u ≤ 320)
instance (n f c u : Int) : Decidable (rt n f c u) := by unfold rt; infer_instance

theorem cnd {β : Type} {p q : Prop} [Decidable p] [Decidable q] {K : Bool → Option β} : cond (decide p) (K (decide q)) (K false) = K (decide (p ∧ q)) := by
  by_cases h : p <;> simp [h]

theorem within87 {β : Type} {F : Nat} {a b c : Int} {K : Bool → Option β} : f118_1 F a b c K = K (decide (a ≥ b ∧ a ≤ c)) := by
  simp only [f118_1, cnd]

theorem right46 {β : Type} {F : Nat} {n f c u : Int} {K : Bool → Option β} : f91_1 F n f c u K = K (decide (rt n f c u)) := by
  simp only [f91_1, within87, cnd]
  congr 1

theorem right47 {β : Type} {F : Nat} {n f c u : Int} {K : Bool → Option β} : f48_1 F n f c u K = K (decide (rt n f c u)) := by
  simp only [f48_1, cnd]
  congr 1
  exact decide_eq_decide.2 (by unfold rt; omega)


/-- Why a volume cannot be. -/
def mayE (a1 a3 a4 a5 a6 a7 : Int) : Int := if ¬ (a1 = 0 ∨ a1 = 1) then 2 else if ¬ rt a3 a4 a5 a6 then 12 else if a7 < 1 ∨ a7 > 281474976710656 then 14 else 0

theorem mayP {β : Type} {F : Nat} {a1 a2 a3 a4 a5 a6 a7 : Int} {K : Int → Option β} : f46_1 F a1 a2 a3 a4 a5 a6 a7 K = K (mayE a1 a3 a4 a5 a6 a7) := by
  have key : f91_1 F a3 a4 a5 a6 (fun x2 => cond (!x2) (K 12) (cond (decide (a7 < 1)) (K 14) (cond (decide (a7 > 281474976710656)) (K 14) (K 0)))) = K (if ¬ rt a3 a4 a5 a6 then 12 else if a7 < 1 ∨ a7 > 281474976710656 then 14 else 0) := by
    rw [right46]
    by_cases h : rt a3 a4 a5 a6
    · rw [decide_eq_true h, Bool.not_true, cond_false, if_neg (fun hh => hh h)]
      by_cases h1 : a7 < 1
      · rw [ct h1, if_pos (.inl h1)]
      · by_cases h2 : a7 > 281474976710656
        · rw [cf h1, ct h2, if_pos (.inr h2)]
        · rw [cf h1, cf h2, if_neg (by omega)]
    · rw [decide_eq_false h, Bool.not_false, cond_true, if_pos h]
  rw [f46_1, mayE]
  by_cases h0 : a1 = 0
  · rw [bnf h0, cond_false, if_neg (fun hh => hh (.inl h0))]; exact key
  · rw [bnt h0, cond_true]
    by_cases h1 : a1 = 1
    · rw [bnf h1, cond_false, if_neg (fun hh => hh (.inr h1))]; exact key
    · rw [bnt h1, cond_true, if_pos (by omega)]

def b1 (n : Int) : List Int := [IntKind.u8.wrap (ishr .u64 n 0)]
def b2 (n : Int) : List Int := [IntKind.u8.wrap (ishr .u64 n 8), IntKind.u8.wrap (ishr .u64 n 0)]
theorem text2 {β : Type} {n : Int} {K : ByteArray → Option β} : f40_1 20000 2 n K = K (ofInts (b2 n)) := by kernel_rfl
def vL (a1 a2 a3 a4 a5 a6 a7 : Int) : List Int := b1 a1 ++ (b4 a2 ++ (b2 a3 ++ (b1 a4 ++ (b2 a5 ++ (b2 a6 ++ b8 a7)))))
theorem vL_len (a1 a2 a3 a4 a5 a6 a7 : Int) : (vL a1 a2 a3 a4 a5 a6 a7).length = 20 := rfl
theorem oiA (l r : List Int) : ofInts (l ++ r) = ofInts l ++ ofInts r := by
  apply extB
  rw [D_app, D_ofInts, D_ofInts, D_ofInts, List.map_append]
theorem oi_size (l : List Int) : (ofInts l).size = l.length := by rw [D_size, D_ofInts, List.length_map]

theorem volL {β : Type} {a1 a2 a3 a4 a5 a6 a7 : Int} {K : List Int → Option β} : f17_1_l6 20000 7 [(1, a1), (4, a2), (2, a3), (1, a4), (2, a5), (2, a6), (8, a7)] K 20000 0 [] = K (vL a1 a2 a3 a4 a5 a6 a7) := by kernel_rfl

/-- A volume as a sector, or why not. -/
def vol (a1 a2 a3 a4 a5 a6 a7 : Int) : ByteArray × Int := if mayE a1 a3 a4 a5 a6 a7 ≠ 0 then (ByteArray.empty, mayE a1 a3 a4 a5 a6 a7)
  else (mkB 1 (ofInts (vL (IntKind.u64.wrap a1) (IntKind.u64.wrap a2) (IntKind.u64.wrap a3) (IntKind.u64.wrap a4) (IntKind.u64.wrap a5) (IntKind.u64.wrap a6) a7)), 0)

theorem mk20 (l : List Int) (h : l.length = 20) : mkR 1 (ofInts l) = (mkB 1 (ofInts l), 0) := by rw [mkR, if_neg (by omega), if_neg (by rw [oi_size, h]; omega)]

theorem volP {β : Type} {a1 a2 a3 a4 a5 a6 a7 : Int} {K : ByteArray → Int → Option β} : f17_1 20000 a1 a2 a3 a4 a5 a6 a7 K = K (vol a1 a2 a3 a4 a5 a6 a7).1 (vol a1 a2 a3 a4 a5 a6 a7).2 := by
  have hbig := big60
  rw [f17_1, mayP, vol]
  by_cases h : mayE a1 a3 a4 a5 a6 a7 = 0
  · rw [bnf h, cond_false, if_neg (fun hh => hh h), volL, makeP (by rw [oi_size, vL_len]; omega), mk20 _ (vL_len ..)]
  · rw [bnt h, cond_true, if_pos h]

theorem volR {β : Type} {a1 a2 a3 a4 a5 a6 a7 : Int} {K : ByteArray → Int → Option β} : f18_1 20000 a1 a2 a3 a4 a5 a6 a7 K = K (vol a1 a2 a3 a4 a5 a6 a7).1 (vol a1 a2 a3 a4 a5 a6 a7).2 := by
  have hbig := big60
  have s1 : ∀ n, (ofInts (b1 n)).size = 1 := fun n => by rw [oi_size]; rfl
  have s2 : ∀ n, (ofInts (b2 n)).size = 2 := fun n => by rw [oi_size]; rfl
  have s4 : ∀ n, (ofInts (b4 n)).size = 4 := fun n => by rw [oi_size]; rfl
  have s8 : ∀ n, (ofInts (b8 n)).size = 8 := fun n => by rw [oi_size]; rfl
  have t1 : ∀ n K, f40_1 20000 1 n K = K (ofInts (b1 n)) := fun n K => text1 (β := β)
  have hL : ∀ a1 a2 a3 a4 a5 a6 a7, ofInts (b1 a1) ++ ofInts (b4 a2) ++ ofInts (b2 a3) ++ ofInts (b1 a4) ++ ofInts (b2 a5) ++ ofInts (b2 a6) ++ ofInts (b8 a7) = ofInts (vL a1 a2 a3 a4 a5 a6 a7) := fun a1 a2 a3 a4 a5 a6 a7 => by
    apply extB
    simp only [vL, oiA, D_app, List.append_assoc]
  have key : f48_1 20000 a3 a4 a5 a6 (fun x1 => cond (!x1) (K ByteArray.empty 12) (cond (decide (a7 < 1)) (K ByteArray.empty 14) (cond (decide (a7 > 281474976710656)) (K ByteArray.empty 14) (f40_1 20000 1 (IntKind.u64.wrap a1) (fun x2 => f40_1 20000 4 (IntKind.u64.wrap a2) (fun x3 => cond (decide (x2.size + x3.size ≤ 4611686018427387904)) (f40_1 20000 2 (IntKind.u64.wrap a3) (fun x4 => cond (decide ((x2 ++ x3).size + x4.size ≤ 4611686018427387904)) (f40_1 20000 1 (IntKind.u64.wrap a4) (fun x5 => cond (decide (((x2 ++ x3) ++ x4).size + x5.size ≤ 4611686018427387904)) (f40_1 20000 2 (IntKind.u64.wrap a5) (fun x6 => cond (decide ((((x2 ++ x3) ++ x4) ++ x5).size + x6.size ≤ 4611686018427387904)) (f40_1 20000 2 (IntKind.u64.wrap a6) (fun x7 => cond (decide (((((x2 ++ x3) ++ x4) ++ x5) ++ x6).size + x7.size ≤ 4611686018427387904)) (f40_1 20000 8 a7 (fun x8 => cond (decide ((((((x2 ++ x3) ++ x4) ++ x5) ++ x6) ++ x7).size + x8.size ≤ 4611686018427387904)) (f11_1 20000 1 ((((((x2 ++ x3) ++ x4) ++ x5) ++ x6) ++ x7) ++ x8) (fun x9 x10 => K x9 x10)) none)) none)) none)) none)) none)) none)))))) =
      K (if ¬ rt a3 a4 a5 a6 then (ByteArray.empty, 12) else if a7 < 1 ∨ a7 > 281474976710656 then (ByteArray.empty, 14) else (mkB 1 (ofInts (vL (IntKind.u64.wrap a1) (IntKind.u64.wrap a2) (IntKind.u64.wrap a3) (IntKind.u64.wrap a4) (IntKind.u64.wrap a5) (IntKind.u64.wrap a6) a7)), (0 : Int))).1
        (if ¬ rt a3 a4 a5 a6 then (ByteArray.empty, 12) else if a7 < 1 ∨ a7 > 281474976710656 then (ByteArray.empty, 14) else (mkB 1 (ofInts (vL (IntKind.u64.wrap a1) (IntKind.u64.wrap a2) (IntKind.u64.wrap a3) (IntKind.u64.wrap a4) (IntKind.u64.wrap a5) (IntKind.u64.wrap a6) a7)), (0 : Int))).2 := by
    rw [right47]
    by_cases h : rt a3 a4 a5 a6
    · rw [decide_eq_true h, Bool.not_true, cond_false, if_neg (fun hh => hh h)]
      by_cases h1 : a7 < 1
      · rw [ct h1, if_pos (.inl h1)]
      · by_cases h2 : a7 > 281474976710656
        · rw [cf h1, ct h2, if_pos (.inr h2)]
        · rw [cf h1, cf h2, if_neg (by omega), t1, text4, ct (by rw [s1, s4]; omega), text2, ct (by rw [app_size, s1, s4, s2]; omega), t1, ct (by simp only [app_size, s1, s4, s2]; omega), text2, ct (by simp only [app_size, s1, s4, s2]; omega), text2, ct (by simp only [app_size, s1, s4, s2]; omega), text8, ct (by simp only [app_size, s1, s4, s2, s8]; omega), hL, makeR (by rw [oi_size, vL_len]; omega), mk20 _ (vL_len ..)]
    · rw [decide_eq_false h, Bool.not_false, cond_true, if_pos h]
  rw [f18_1, vol, mayE]
  have fin : ∀ {p : Prop} [Decidable p] {q : Prop} [Decidable q] {z : ByteArray}, (if (if p then (12 : Int) else if q then 14 else 0) ≠ 0 then (ByteArray.empty, (if p then (12 : Int) else if q then 14 else 0)) else (z, (0 : Int))) = if p then (ByteArray.empty, 12) else if q then (ByteArray.empty, 14) else (z, 0) := by
    intro p _ q _ z
    by_cases hp : p
    · simp [hp]
    · by_cases hq : q
      · simp [hp, hq]
      · simp [hp, hq]
  by_cases h0 : a1 = 0
  · rw [bnf h0, cond_false, if_neg (show ¬ ¬ (a1 = 0 ∨ a1 = 1) from fun hh => hh (Or.inl h0)), fin]; exact key
  · rw [bnt h0, cond_true]
    by_cases h1 : a1 = 1
    · rw [bnf h1, cond_false, if_neg (show ¬ ¬ (a1 = 0 ∨ a1 = 1) from fun hh => hh (Or.inr h1)), fin]; exact key
    · rw [bnt h1, cond_true, if_pos (show ¬ (a1 = 0 ∨ a1 = 1) by omega), if_pos (by decide)]

/-! ### A sector as a volume -/

theorem num_lt : ∀ (l : List Int) (v : Int), 0 ≤ v → (∀ x ∈ l, 0 ≤ x ∧ x < 256) → 0 ≤ num v l ∧ num v l < (v + 1) * 256 ^ l.length
  | [], v, hv, _ => by simp [num]; omega
  | x :: l, v, hv, h => by
    have hx := h x (by simp)
    have ih := num_lt l (v * 256 + x) (by omega) (fun y hy => h y (by simp [hy]))
    refine ⟨ih.1, Int.lt_of_lt_of_le ih.2 ?_⟩
    rw [List.length_cons, Int.pow_succ, Int.mul_comm (256 ^ l.length) 256, ← Int.mul_assoc]
    exact Int.mul_le_mul_of_nonneg_right (by omega) (Int.pow_nonneg (by decide))

abbrev C8 := Int × Int × Int × Int × Int × Int × Int × Int
def app8 {β : Type} (K : Int → Int → Int → Int → Int → Int → Int → Int → Option β) (c : C8) : Option β := K c.1 c.2.1 c.2.2.1 c.2.2.2.1 c.2.2.2.2.1 c.2.2.2.2.2.1 c.2.2.2.2.2.2.1 c.2.2.2.2.2.2.2

def n1 (L : List Int) : Int := num 0 (L.take 1)
def n2 (L : List Int) : Int := num 0 ((L.drop 1).take 4)
def n3 (L : List Int) : Int := num 0 (((L.drop 1).drop 4).take 2)
def n4 (L : List Int) : Int := num 0 ((((L.drop 1).drop 4).drop 2).take 1)
def n5 (L : List Int) : Int := num 0 (((((L.drop 1).drop 4).drop 2).drop 1).take 2)
def n6 (L : List Int) : Int := num 0 ((((((L.drop 1).drop 4).drop 2).drop 1).drop 2).take 2)
def n7 (L : List Int) : Int := num 0 (((((((L.drop 1).drop 4).drop 2).drop 1).drop 2).drop 2).take 8)

/-- The volume that a sector is, or why it is none. -/
def cfg (s : ByteArray) : C8 := if (opn 1 s).2 ≠ 0 then (0, 0, 0, 0, 0, 0, 0, (opn 1 s).2) else if (opn 1 s).1.size ≠ 20 then (0, 0, 0, 0, 0, 0, 0, 6)
  else if mayE (n1 (toInts (opn 1 s).1)) (n3 (toInts (opn 1 s).1)) (n4 (toInts (opn 1 s).1)) (n5 (toInts (opn 1 s).1)) (n6 (toInts (opn 1 s).1)) (n7 (toInts (opn 1 s).1)) ≠ 0 then (0, 0, 0, 0, 0, 0, 0, 6)
  else (n1 (toInts (opn 1 s).1), n2 (toInts (opn 1 s).1), n3 (toInts (opn 1 s).1), n4 (toInts (opn 1 s).1), n5 (toInts (opn 1 s).1), n6 (toInts (opn 1 s).1), n7 (toInts (opn 1 s).1), 0)

theorem numE {w : Nat} {e : Int} {l : List Int} (h1 : 1 ≤ w) (hw : w ≤ 8) (hl : l.length ≤ 100) (hb : ∀ x ∈ l, 0 ≤ x ∧ x < 256) : ∃ (v e' : Int) (l' : List Int), (∀ {β : Type} (K : Int → Int → List Int → Option β), f51_1 20000 (w : Int) e l K = K v e' l') ∧ l'.length ≤ 100 ∧ ∀ x ∈ l', 0 ≤ x ∧ x < 256 := by
  refine ⟨(nm w e l).1, (nm w e l).2.1, (nm w e l).2.2, fun K => numC h1 hw (by omega) hb, ?_, ?_⟩
  · unfold nm
    split
    · exact hl
    · split
      · simp; omega
      · exact hl
  · unfold nm
    split
    · exact hb
    · split
      · exact fun x hx => hb x (List.mem_of_mem_drop hx)
      · exact hb

theorem numOK {w : Nat} {l : List Int} (h1 : 1 ≤ w) (hw : w ≤ 8) (h : w ≤ l.length) (hl : l.length ≤ 100) (hb : ∀ x ∈ l, 0 ≤ x ∧ x < 256) {β : Type} (K : Int → Int → List Int → Option β) : f51_1 20000 (w : Int) 0 l K = K (num 0 (l.take w)) 0 (l.drop w) := by
  refine (numC h1 hw (by omega) hb).trans ?_
  rw [nm, if_neg (by simp), if_pos h]

theorem small {l : List Int} {w : Nat} {b : Int} (hb : ∀ x ∈ l, 0 ≤ x ∧ x < 256) (he : (256 : Int) ^ w ≤ b) : 0 ≤ num 0 (l.take w) ∧ num 0 (l.take w) < b := by
  have h := num_lt (l.take w) 0 (by omega) (fun x hx => hb x (List.mem_of_mem_take hx))
  refine ⟨h.1, Int.lt_of_lt_of_le h.2 ?_⟩
  have hle : (l.take w).length ≤ w := List.length_take_le _ _
  have : (256 : Nat) ^ (l.take w).length ≤ 256 ^ w := Nat.pow_le_pow_right (by decide) hle
  have h2 := Int.ofNat_le.2 this
  rw [Int.natCast_pow, Int.natCast_pow] at h2
  have h3 : ((256 : Nat) : Int) = 256 := rfl
  rw [h3] at h2
  omega

theorem nlt {L : List Int} (hb : ∀ x ∈ L, 0 ≤ x ∧ x < 256) : (0 ≤ n1 L ∧ n1 L < 256) ∧ (0 ≤ n2 L ∧ n2 L < 4294967296) ∧ (0 ≤ n3 L ∧ n3 L < 65536) ∧ (0 ≤ n4 L ∧ n4 L < 256) ∧ (0 ≤ n5 L ∧ n5 L < 65536) ∧ (0 ≤ n6 L ∧ n6 L < 65536) := by
  have d : ∀ {l : List Int} (k : Nat), (∀ x ∈ l, 0 ≤ x ∧ x < 256) → ∀ x ∈ l.drop k, 0 ≤ x ∧ x < 256 := fun k h x hx => h x (List.mem_of_mem_drop hx)
  exact ⟨small hb (by decide), small (d 1 hb) (by decide), small (d 4 (d 1 hb)) (by decide), small (d 2 (d 4 (d 1 hb))) (by decide), small (d 1 (d 2 (d 4 (d 1 hb)))) (by decide), small (d 2 (d 1 (d 2 (d 4 (d 1 hb))))) (by decide)⟩

theorem numR {β : Type} {w k : Nat} {l : List Int} {K : Int → Int → Int → Option β} (h1 : 1 ≤ w) (hw : w ≤ 8) (h : k + w ≤ l.length) (hl : l.length ≤ 100) (hb : ∀ x ∈ l, 0 ≤ x ∧ x < 256) :
    f52_1 20000 (w : Int) (k : Int) 0 l K = K (num 0 ((l.drop k).take w)) ((k + w : Nat) : Int) 0 := by
  rw [f52_1, show ((0 : Int) != 0) = false from rfl, cond_false]
  refine (getR h1 hw (by omega) (by omega) hb).trans ?_
  rw [gt, if_pos h]
  show cond ((0 : Int) == 0) _ _ = _
  rw [beq_self_eq_true, cond_true, w64 (by omega) (by omega)]
  rfl

end Go.Proofs.YtillbabmlfjegaaDoor.X
end

section
/- The law: volumes as sectors. -/
namespace Go.Proofs.YtillbabmlfjegaaDoor.X
open Go Go.Proofs.YtillbabmlfjegaaDoor.Ev
set_option linter.unusedSectionVars false
variable [FZ]
set_option linter.unusedVariables false
set_option linter.unusedSimpArgs false

theorem cfgP {β : Type} {s : ByteArray} {K : Int → Int → Int → Int → Int → Int → Int → Int → Option β} : f19_1 20000 s K = app8 K (cfg s) := by
  rw [f19_1, openP, cfg]
  by_cases h1 : (opn 1 s).2 = 0
  · rw [bnf h1, cond_false, if_neg (fun hh => hh h1)]
    have hos := opn_size 1 s
    generalize (opn 1 s).1 = o at hos
    have hl := toInts_size o
    have hb := toInts_r o
    rw [f49_1, ct (by omega), List.nil_append]
    by_cases h2 : o.size = 20
    · rw [if_neg (fun hh => hh h2)]
      generalize hL : toInts o = L at hl hb
      have d : ∀ {l : List Int} (k : Nat), (∀ x ∈ l, 0 ≤ x ∧ x < 256) → ∀ x ∈ l.drop k, 0 ≤ x ∧ x < 256 := fun k h x hx => h x (List.mem_of_mem_drop hx)
      obtain ⟨r1, r2, r3, r4, r5, r6⟩ := nlt hb
      have g1 : ∀ K : Int → Int → List Int → Option β, f51_1 20000 1 0 L K = K (n1 L) 0 (L.drop 1) := fun K => numOK (w := 1) (by omega) (by omega) (by omega) (by omega) hb K
      have g2 : ∀ K : Int → Int → List Int → Option β, f51_1 20000 4 0 (L.drop 1) K = K (n2 L) 0 ((L.drop 1).drop 4) := fun K => numOK (w := 4) (by omega) (by omega) (by simp; omega) (by simp; omega) (d 1 hb) K
      have g3 : ∀ K : Int → Int → List Int → Option β, f51_1 20000 2 0 ((L.drop 1).drop 4) K = K (n3 L) 0 (((L.drop 1).drop 4).drop 2) := fun K => numOK (w := 2) (by omega) (by omega) (by simp; omega) (by simp; omega) (d 4 (d 1 hb)) K
      have g4 : ∀ K : Int → Int → List Int → Option β, f51_1 20000 1 0 (((L.drop 1).drop 4).drop 2) K = K (n4 L) 0 ((((L.drop 1).drop 4).drop 2).drop 1) := fun K => numOK (w := 1) (by omega) (by omega) (by simp; omega) (by simp; omega) (d 2 (d 4 (d 1 hb))) K
      have g5 : ∀ K : Int → Int → List Int → Option β, f51_1 20000 2 0 ((((L.drop 1).drop 4).drop 2).drop 1) K = K (n5 L) 0 (((((L.drop 1).drop 4).drop 2).drop 1).drop 2) := fun K => numOK (w := 2) (by omega) (by omega) (by simp; omega) (by simp; omega) (d 1 (d 2 (d 4 (d 1 hb)))) K
      have g6 : ∀ K : Int → Int → List Int → Option β, f51_1 20000 2 0 (((((L.drop 1).drop 4).drop 2).drop 1).drop 2) K = K (n6 L) 0 ((((((L.drop 1).drop 4).drop 2).drop 1).drop 2).drop 2) := fun K => numOK (w := 2) (by omega) (by omega) (by simp; omega) (by simp; omega) (d 2 (d 1 (d 2 (d 4 (d 1 hb))))) K
      have g7 : ∀ K : Int → Int → List Int → Option β, f51_1 20000 8 0 ((((((L.drop 1).drop 4).drop 2).drop 1).drop 2).drop 2) K = K (n7 L) 0 (((((((L.drop 1).drop 4).drop 2).drop 1).drop 2).drop 2).drop 8) := fun K => numOK (w := 8) (by omega) (by omega) (by simp; omega) (by simp; omega) (d 2 (d 2 (d 1 (d 2 (d 4 (d 1 hb)))))) K
      simp only [f50_2906, g1, g2, g3, g4, g5, g6, g7, amb_self, bnf (show (o.size : Int) = 20 by omega), cond_false, mayP, w64 (show -9223372036854775808 ≤ n1 L by omega) (by omega), w64 (show -9223372036854775808 ≤ n3 L by omega) (by omega), w64 (show -9223372036854775808 ≤ n4 L by omega) (by omega), w64 (show -9223372036854775808 ≤ n5 L by omega) (by omega), w64 (show -9223372036854775808 ≤ n6 L by omega) (by omega), wu32 r2.1 r2.2]
      by_cases h3 : mayE (n1 L) (n3 L) (n4 L) (n5 L) (n6 L) (n7 L) = 0
      · rw [bnf h3, cond_false, if_neg (fun hh => hh h3)]; rfl
      · rw [bnt h3, cond_true, if_pos h3]; rfl
    · rw [if_pos h2]
      generalize hL : toInts o = L at hl hb
      obtain ⟨v1, e1, l1, g1, p1, q1⟩ := numE (w := 1) (e := 0) (l := L) (by omega) (by omega) (by omega) hb
      obtain ⟨v2, e2, l2, g2, p2, q2⟩ := numE (w := 4) (e := e1) (l := l1) (by omega) (by omega) p1 q1
      obtain ⟨v3, e3, l3, g3, p3, q3⟩ := numE (w := 2) (e := e2) (l := l2) (by omega) (by omega) p2 q2
      obtain ⟨v4, e4, l4, g4, p4, q4⟩ := numE (w := 1) (e := e3) (l := l3) (by omega) (by omega) p3 q3
      obtain ⟨v5, e5, l5, g5, p5, q5⟩ := numE (w := 2) (e := e4) (l := l4) (by omega) (by omega) p4 q4
      obtain ⟨v6, e6, l6, g6, p6, q6⟩ := numE (w := 2) (e := e5) (l := l5) (by omega) (by omega) p5 q5
      obtain ⟨v7, e7, l7, g7, p7, q7⟩ := numE (w := 8) (e := e6) (l := l6) (by omega) (by omega) p6 q6
      simp only [show ((1 : Nat) : Int) = 1 from rfl, show ((2 : Nat) : Int) = 2 from rfl, show ((4 : Nat) : Int) = 4 from rfl, show ((8 : Nat) : Int) = 8 from rfl] at g1 g2 g3 g4 g5 g6 g7
      simp only [f50_2906, g1, g2, g3, g4, g5, g6, g7, amb_self, bnt (show ¬ (o.size : Int) = 20 by omega), cond_true]
      rfl
  · rw [bnt h1, cond_true, if_pos h1]; rfl

theorem cfgR {β : Type} {s : ByteArray} {K : Int → Int → Int → Int → Int → Int → Int → Int → Option β} : f20_1 20000 s K = app8 K (cfg s) := by
  rw [f20_1, openR, cfg]
  by_cases h1 : (opn 1 s).2 = 0
  · rw [bnf h1, cond_false, if_neg (fun hh => hh h1)]
    have hos := opn_size 1 s
    generalize (opn 1 s).1 = o at hos
    have hl := toInts_size o
    have hb := toInts_r o
    by_cases h2 : o.size = 20
    · rw [bnf (by omega), cond_false, if_neg (fun hh => hh h2)]
      generalize hL : toInts o = L at hl hb
      obtain ⟨r1, r2, r3, r4, r5, r6⟩ := nlt hb
      have g : ∀ (w k : Nat) (K : Int → Int → Int → Option β), 1 ≤ w → w ≤ 8 → k + w ≤ L.length → f52_1 20000 (w : Int) (k : Int) 0 L K = K (num 0 ((L.drop k).take w)) ((k + w : Nat) : Int) 0 := fun w k K a b c => numR a b c (by omega) hb
      refine (g 1 0 _ (by omega) (by omega) (by omega)).trans ?_
      refine (g 4 1 _ (by omega) (by omega) (by omega)).trans ?_
      refine (g 2 5 _ (by omega) (by omega) (by omega)).trans ?_
      refine (g 1 7 _ (by omega) (by omega) (by omega)).trans ?_
      refine (g 2 8 _ (by omega) (by omega) (by omega)).trans ?_
      refine (g 2 10 _ (by omega) (by omega) (by omega)).trans ?_
      refine (g 8 12 _ (by omega) (by omega) (by omega)).trans ?_
      have e1 : num 0 ((L.drop 0).take 1) = n1 L := by rw [List.drop_zero]; rfl
      have e2 : num 0 ((L.drop 1).take 4) = n2 L := rfl
      have e3 : num 0 ((L.drop 5).take 2) = n3 L := by rw [n3, List.drop_drop]
      have e4 : num 0 ((L.drop 7).take 1) = n4 L := by rw [n4, List.drop_drop, List.drop_drop]
      have e5 : num 0 ((L.drop 8).take 2) = n5 L := by rw [n5, List.drop_drop, List.drop_drop, List.drop_drop]
      have e6 : num 0 ((L.drop 10).take 2) = n6 L := by rw [n6, List.drop_drop, List.drop_drop, List.drop_drop, List.drop_drop]
      have e7 : num 0 ((L.drop 12).take 8) = n7 L := by rw [n7, List.drop_drop, List.drop_drop, List.drop_drop, List.drop_drop, List.drop_drop]
      rw [e1, e2, e3, e4, e5, e6, e7, w64 (x := n1 L) (by omega) (by omega), w64 (x := n3 L) (by omega) (by omega), w64 (x := n4 L) (by omega) (by omega), w64 (x := n5 L) (by omega) (by omega), w64 (x := n6 L) (by omega) (by omega), wu32 r2.1 r2.2, volR, vol]
      by_cases h3 : mayE (n1 L) (n3 L) (n4 L) (n5 L) (n6 L) (n7 L) = 0
      · rw [if_neg (fun hh => hh h3), if_neg (fun hh => hh h3)]
        show cond ((0 : Int) != 0) _ _ = _
        rw [bnf rfl, cond_false]; rfl
      · rw [if_pos h3, if_pos h3]
        show cond (mayE (n1 L) (n3 L) (n4 L) (n5 L) (n6 L) (n7 L) != 0) _ _ = _
        rw [bnt h3, cond_true]; rfl
    · rw [bnt (by omega), cond_true, if_pos h2]; rfl
  · rw [bnt h1, cond_true, if_pos h1]; rfl

theorem num_b1 {n : Int} (h : 0 ≤ n ∧ n < 256) : num 0 (b1 n) = n := by
  obtain ⟨_, _, _, _, _, _, _, e8⟩ := shrN h.1
  simp only [num, b1, List.foldl_cons, List.foldl_nil, wu8m, e8]; omega
theorem num_b2 {n : Int} (h : 0 ≤ n ∧ n < 65536) : num 0 (b2 n) = n := by
  obtain ⟨_, _, _, _, _, _, e7, e8⟩ := shrN h.1
  simp only [num, b2, List.foldl_cons, List.foldl_nil, wu8m, e7, e8]; omega
theorem num_b4 {n : Int} (h : 0 ≤ n ∧ n < 4294967296) : num 0 (b4 n) = n := by
  obtain ⟨_, _, _, _, e5, e6, e7, e8⟩ := shrN h.1
  simp only [num, b4, List.foldl_cons, List.foldl_nil, wu8m, e5, e6, e7, e8]; omega

theorem b1_r (n : Int) : ∀ x ∈ b1 n, 0 ≤ x ∧ x < 256 := by
  intro x hx
  simp only [b1, List.mem_cons, List.not_mem_nil, or_false] at hx
  rcases hx with rfl; rw [wu8m]; omega
theorem b2_r (n : Int) : ∀ x ∈ b2 n, 0 ≤ x ∧ x < 256 := by
  intro x hx
  simp only [b2, List.mem_cons, List.not_mem_nil, or_false] at hx
  rcases hx with rfl | rfl <;> (rw [wu8m]; omega)
theorem b4_r (n : Int) : ∀ x ∈ b4 n, 0 ≤ x ∧ x < 256 := by
  intro x hx
  simp only [b4, List.mem_cons, List.not_mem_nil, or_false] at hx
  rcases hx with rfl | rfl | rfl | rfl <;> (rw [wu8m]; omega)
theorem app_r {l r : List Int} (hl : ∀ x ∈ l, 0 ≤ x ∧ x < 256) (hr : ∀ x ∈ r, 0 ≤ x ∧ x < 256) : ∀ x ∈ l ++ r, 0 ≤ x ∧ x < 256 := fun x hx => by
  rcases List.mem_append.1 hx with hx | hx
  · exact hl x hx
  · exact hr x hx
theorem vL_r (a1 a2 a3 a4 a5 a6 a7 : Int) : ∀ x ∈ vL a1 a2 a3 a4 a5 a6 a7, 0 ≤ x ∧ x < 256 :=
  app_r (b1_r _) (app_r (b4_r _) (app_r (b2_r _) (app_r (b1_r _) (app_r (b2_r _) (app_r (b2_r _) (b8_r _))))))

/-- What is told is read back. -/
theorem cfg_back {a1 a2 a3 a4 a5 a6 a7 : Int} (h : mayE a1 a3 a4 a5 a6 a7 = 0) (h2 : 0 ≤ a2 ∧ a2 < 4294967296) : cfg (vol a1 a2 a3 a4 a5 a6 a7).1 = (a1, a2, a3, a4, a5, a6, a7, 0) := by
  have hm := h
  unfold mayE at h
  split at h
  · cases h
  · rename_i ha1
    split at h
    · cases h
    · rename_i hrt
      split at h
      · cases h
      · rename_i h7
        have hrt := Classical.not_not.1 hrt
        unfold rt at hrt
        have u1 : IntKind.u64.wrap a1 = a1 := wu64 (by omega) (by omega)
        have u2 : IntKind.u64.wrap a2 = a2 := wu64 (by omega) (by omega)
        have u3 : IntKind.u64.wrap a3 = a3 := wu64 (by omega) (by omega)
        have u4 : IntKind.u64.wrap a4 = a4 := wu64 (by omega) (by omega)
        have u5 : IntKind.u64.wrap a5 = a5 := wu64 (by omega) (by omega)
        have u6 : IntKind.u64.wrap a6 = a6 := wu64 (by omega) (by omega)
        have hs : (ofInts (vL a1 a2 a3 a4 a5 a6 a7)).size = 20 := by rw [oi_size, vL_len]
        have ho : opn 1 (mkB 1 (ofInts (vL a1 a2 a3 a4 a5 a6 a7))) = (ofInts (vL a1 a2 a3 a4 a5 a6 a7), 0) := mkB_open (by omega) (by omega) (by omega)
        have d1 : (vL a1 a2 a3 a4 a5 a6 a7).drop 1 = b4 a2 ++ (b2 a3 ++ (b1 a4 ++ (b2 a5 ++ (b2 a6 ++ b8 a7)))) := List.drop_left' (l₁ := b1 a1) rfl
        have d2 : (b4 a2 ++ (b2 a3 ++ (b1 a4 ++ (b2 a5 ++ (b2 a6 ++ b8 a7))))).drop 4 = b2 a3 ++ (b1 a4 ++ (b2 a5 ++ (b2 a6 ++ b8 a7))) := List.drop_left' rfl
        have d3 : (b2 a3 ++ (b1 a4 ++ (b2 a5 ++ (b2 a6 ++ b8 a7)))).drop 2 = b1 a4 ++ (b2 a5 ++ (b2 a6 ++ b8 a7)) := List.drop_left' rfl
        have d4 : (b1 a4 ++ (b2 a5 ++ (b2 a6 ++ b8 a7))).drop 1 = b2 a5 ++ (b2 a6 ++ b8 a7) := List.drop_left' rfl
        have d5 : (b2 a5 ++ (b2 a6 ++ b8 a7)).drop 2 = b2 a6 ++ b8 a7 := List.drop_left' rfl
        have d6 : (b2 a6 ++ b8 a7).drop 2 = b8 a7 := List.drop_left' rfl
        have t1 : (vL a1 a2 a3 a4 a5 a6 a7).take 1 = b1 a1 := List.take_left' (l₁ := b1 a1) rfl
        have t2 : (b4 a2 ++ (b2 a3 ++ (b1 a4 ++ (b2 a5 ++ (b2 a6 ++ b8 a7))))).take 4 = b4 a2 := List.take_left' rfl
        have t3 : (b2 a3 ++ (b1 a4 ++ (b2 a5 ++ (b2 a6 ++ b8 a7)))).take 2 = b2 a3 := List.take_left' rfl
        have t4 : (b1 a4 ++ (b2 a5 ++ (b2 a6 ++ b8 a7))).take 1 = b1 a4 := List.take_left' rfl
        have t5 : (b2 a5 ++ (b2 a6 ++ b8 a7)).take 2 = b2 a5 := List.take_left' rfl
        have t6 : (b2 a6 ++ b8 a7).take 2 = b2 a6 := List.take_left' rfl
        have t7 : (b8 a7).take 8 = b8 a7 := rfl
        have m1 : n1 (vL a1 a2 a3 a4 a5 a6 a7) = a1 := by rw [n1, t1, num_b1 (by omega)]
        have m2 : n2 (vL a1 a2 a3 a4 a5 a6 a7) = a2 := by rw [n2, d1, t2, num_b4 h2]
        have m3 : n3 (vL a1 a2 a3 a4 a5 a6 a7) = a3 := by rw [n3, d1, d2, t3, num_b2 (by omega)]
        have m4 : n4 (vL a1 a2 a3 a4 a5 a6 a7) = a4 := by rw [n4, d1, d2, d3, t4, num_b1 (by omega)]
        have m5 : n5 (vL a1 a2 a3 a4 a5 a6 a7) = a5 := by rw [n5, d1, d2, d3, d4, t5, num_b2 (by omega)]
        have m6 : n6 (vL a1 a2 a3 a4 a5 a6 a7) = a6 := by rw [n6, d1, d2, d3, d4, d5, t6, num_b2 (by omega)]
        have m7 : n7 (vL a1 a2 a3 a4 a5 a6 a7) = a7 := by rw [n7, d1, d2, d3, d4, d5, d6, t7, num8 (by omega)]
        rw [vol, if_neg (fun hh => hh hm), u1, u2, u3, u4, u5, u6]
        show cfg (mkB 1 (ofInts (vL a1 a2 a3 a4 a5 a6 a7))) = _
        unfold cfg
        rw [ho]
        simp only
        rw [if_neg (by simp), if_neg (fun hh => hh hs), toInts_ofInts (vL_r a1 a2 a3 a4 a5 a6 a7), m1, m2, m3, m4, m5, m6, m7, if_neg (fun hh => hh hm)]

theorem law_true {β : Type} (a1 a2 a3 a4 a5 a6 a7 : Int) (s : ByteArray) {q1 : Prop} (_ : q1) (h2 : (Lit.int .u32 a2).wf = true) {q2 q3 q4 q5 q6 q7 : Prop} (_ : q2) (_ : q3) (_ : q4) (_ : q5) (_ : q6) (_ : q7) (r : β) :
    ∃ F, f6_1 F a1 a2 a3 a4 a5 a6 a7 s (fun b => cond b (some r) none) = some r := by
  refine ⟨20000, ?_⟩
  have e : ∀ z : Int, (z != z) = false := fun z => by simp
  have b : ∀ z : Int, (z == z) = true := fun z => by simp
  rw [f6_1, volP, volR, cfgP, app8, cfgR, app8, beq_self_eq_true, Bool.not_true, cond_false, e, cond_false, e, cond_false, b, b, b, b, b, b, Bool.and_self, Bool.and_self, Bool.and_self, Bool.and_self, Bool.and_self, Bool.not_true, cond_false, e, cond_false, cfgP, app8]
  by_cases h : mayE a1 a3 a4 a5 a6 a7 = 0
  · rw [cfg_back h (u32_of_wf h2)]
    have hv : (vol a1 a2 a3 a4 a5 a6 a7).2 = 0 := by rw [vol, if_neg (fun hh => hh h)]
    rw [hv, bnf rfl, cond_false, b, cond_true, b, b, b, b, b, b, Bool.and_self, Bool.and_self, Bool.and_self, Bool.and_self, Bool.and_self, cond_true, b, cond_true, known08]
    rfl
  · have hv : (vol a1 a2 a3 a4 a5 a6 a7).2 = mayE a1 a3 a4 a5 a6 a7 := by rw [vol, if_pos h]
    rw [hv, bnt h, cond_true, known08]
    rfl

end Go.Proofs.YtillbabmlfjegaaDoor.X
end
