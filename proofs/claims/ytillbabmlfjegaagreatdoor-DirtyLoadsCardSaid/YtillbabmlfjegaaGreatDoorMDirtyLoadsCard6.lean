/- Merged: RecA, RecB, RecC, NumA, NumC, DirtyN, PureDirtyLoads. -/
import Derived.Test.YtillbabmlfjegaaGreatDoorMDirtyLoadsCard5
import Derived.Test.YtillbabmlfjegaaGreatDoorMDirtyLoadsCard3
import Derived.Test.YtillbabmlfjegaaGreatDoorMDirtyLoadsCard4
import Derived.KernelRfl
section
/- Records: sums, numbers as bytes; the code's and the document's, in one form. -/
namespace Go.Proofs.YtillbabmlfjegaaGreatDoor.X
open Go Go.Proofs.YtillbabmlfjegaaGreatDoor.Ev
set_option linter.unusedSectionVars false
variable [FZ]
set_option linter.unusedVariables false
set_option linter.unusedSimpArgs false

theorem x32 (x y : Int) : 0 ≤ ixor .u32 x y ∧ ixor .u32 x y < 4294967296 := by
  unfold ixor; rw [wu32m]; omega
theorem x8 (x y : Int) : 0 ≤ ixor .u8 x y ∧ ixor .u8 x y < 256 := by
  unfold ixor; rw [wu8m]; omega

theorem sh8 {n : Int} (h : 0 ≤ n ∧ n < 4294967296) : IntKind.u32.wrap (n.tdiv 256) = ishr .u32 n 8 := by
  have e : (2 : Int) ^ (min (8 : Int).toNat IntKind.u32.bits) = 256 := by decide
  rw [ishr, e, Int.fdiv_eq_ediv_of_nonneg _ (by omega), Int.tdiv_eq_ediv_of_nonneg h.1, wu32 (by omega) (by omega)]

/-- The table: each byte's step. -/
def eStep (x : Int) : Int := if (iand .u32 x 1) == 1 then ixor .u32 (ishr .u32 x 1) 2197175160 else ishr .u32 x 1
def ent (x : Int) : Int := eStep (eStep (eStep (eStep (eStep (eStep (eStep (eStep x)))))))
def tb : List Int := (List.range 256).map fun (i : Nat) => ent (i : Int)
theorem tb_len : tb.length = 256 := by simp [tb]

set_option maxRecDepth 100000 in
theorem tableP {β : Type} {K : List Int → Option β} : f96_1 20000 K = K tb := by kernel_rfl

theorem entNat {β : Type} {F : Nat} {K : Int → Option β} : ∀ (k : Nat) (v i : Int), f89_1_l3 F K k v i = (f89_1_l3 F some k v i).bind K
  | 0, v, i => rfl
  | k + 1, v, i => by
    rw [f89_1_l3, f89_1_l3]
    cases decide (i < 8) with
    | false => rfl
    | true =>
      cases (v.tmod 2 == 1) with
      | true => exact entNat k _ _
      | false => exact entNat k _ _

set_option maxRecDepth 100000 in
theorem entAll : ((List.range 256).all fun (i : Nat) => f89_1 20000 (i : Int) some == some (tb.getD i 0)) = true := by kernel_rfl

theorem entR {β : Type} {x : Int} (h : 0 ≤ x ∧ x < 256) {K : Int → Option β} : f89_1 20000 x K = K (tb.getD x.toNat 0) := by
  have h1 := List.all_eq_true.1 entAll x.toNat (List.mem_range.2 (by omega))
  rw [beq_iff_eq, show ((x.toNat : Nat) : Int) = x by omega, f89_1] at h1
  rw [f89_1, entNat, h1]; rfl

def crcS : Int → List Int → Int
  | n, [] => n
  | n, c :: r => crcS (ixor .u32 (ishr .u32 n 8) (tb.getD (ixor .u8 (IntKind.u8.wrap n) c).toNat 0)) r
def crc (b : List Int) : Int := ixor .u32 4294967295 (crcS (ixor .u32 4294967295 0) b)

theorem atL {α : Type} {l r : List α} {x d : α} {i : Nat} (hd : l.drop i = x :: r) : i < l.length ∧ l.getD (0 + (i : Int).toNat) d = x ∧ l.drop (i + 1) = r := by
  have h1 : i < l.length := by
    rcases Nat.lt_or_ge i l.length with h1 | h1
    · exact h1
    · rw [List.drop_eq_nil_of_le h1] at hd; cases hd
  rw [List.drop_eq_getElem_cons h1] at hd
  injection hd with h2 h3
  refine ⟨h1, ?_, h3⟩
  simp [h1, h2]

theorem nilL {α : Type} {l : List α} {i : Nat} (h : l.drop i = []) (hi : i ≤ l.length) : i = l.length := by
  have := congrArg List.length h
  simp at this; omega

theorem crcPl {β : Type} {F : Nat} {b : List Int} {K : Int → Option β} (hb : b.length ≤ 100000) : ∀ (r : List Int) (i k : Nat) (n : Int), b.drop i = r → i ≤ b.length → r.length < k →
    f88_1_l4 F ((b.length : Nat) : Int) b tb K k n (i : Int) = K (crcS n r)
  | [], i, 0, _, _, _, hk => by simp at hk
  | _ :: _, i, 0, _, _, _, hk => by simp at hk
  | [], i, k + 1, n, hd, hi, _ => by
    have := nilL hd hi
    rw [f88_1_l4, cf (by omega)]; rfl
  | c :: r, i, k + 1, n, hd, hi, hk => by
    obtain ⟨h1, h2, h3⟩ := atL (d := (0 : Int)) hd
    have hx := x8 (IntKind.u8.wrap n) c
    rw [f88_1_l4, ct (by omega), ct (by omega), ct (by omega), h2, ct hx, ct (by rw [tb_len]; omega), w64 (by omega) (by omega), crcS]
    exact crcPl hb r (i + 1) k _ h3 (by omega) (by simp at hk; omega)

theorem crcP {β : Type} {b : List Int} {K : Int → Option β} (hb : b.length ≤ 10000) : f75_1 20000 b K = K (crc b) := by
  rw [f75_1, f88_1, tableP]
  exact crcPl (K := fun x7 => K (ixor .u32 4294967295 x7)) (by omega) b 0 20000 _ rfl (by omega) (by omega)

theorem crcRl {β : Type} {b : List Int} {K : Int → Option β} (hb : b.length ≤ 100000) : ∀ (r : List Int) (i k : Nat) (n : Int), b.drop i = r → i ≤ b.length → r.length < k → 0 ≤ n ∧ n < 4294967296 →
    f77_1_l3 20000 b K k n (i : Int) = K (crcS n r)
  | [], i, 0, _, _, _, hk, _ => by simp at hk
  | _ :: _, i, 0, _, _, _, hk, _ => by simp at hk
  | [], i, k + 1, n, hd, hi, _, _ => by
    have := nilL hd hi
    rw [f77_1_l3, cf (by omega)]; rfl
  | c :: r, i, k + 1, n, hd, hi, hk, hn => by
    obtain ⟨h1, h2, h3⟩ := atL (d := (0 : Int)) hd
    have hx := x8 (IntKind.u8.wrap n) c
    rw [f77_1_l3, ct (by omega), ct (by omega), ct (by omega), h2, entR hx, w64 (by omega) (by omega), sh8 hn, crcS]
    exact crcRl hb r (i + 1) k _ h3 (by omega) (by simp at hk; omega) (x32 _ _)

theorem crcR {β : Type} {b : List Int} {K : Int → Option β} (hb : b.length ≤ 10000) : f62_1 20000 b K = K (crc b) := by
  rw [f62_1, f77_1]
  exact crcRl (K := fun x7 => K (ixor .u32 4294967295 x7)) (by omega) b 0 20000 _ rfl (by omega) (by omega) (x32 _ _)

/-! ### Numbers as bytes -/

def b4 (n : Int) : List Int := [IntKind.u8.wrap (ishr .u64 n 24), IntKind.u8.wrap (ishr .u64 n 16), IntKind.u8.wrap (ishr .u64 n 8), IntKind.u8.wrap (ishr .u64 n 0)]
theorem put4 {β : Type} {n : Int} {K : List Int → Option β} : f60_1 20000 4 n [] K = K (b4 n) := by kernel_rfl
theorem text4 {β : Type} {n : Int} {K : ByteArray → Option β} : f42_1 20000 4 n K = K (ofInts (b4 n)) := by kernel_rfl
theorem text1 {β : Type} {n : Int} {K : ByteArray → Option β} : f42_1 20000 1 n K = K (ofInts [IntKind.u8.wrap (ishr .u64 n 0)]) := by kernel_rfl

end Go.Proofs.YtillbabmlfjegaaGreatDoor.X
end

section
/- Records: made, opened; the code's and the document's, in one form. -/
namespace Go.Proofs.YtillbabmlfjegaaGreatDoor.X
open Go Go.Proofs.YtillbabmlfjegaaGreatDoor.Ev
set_option linter.unusedSectionVars false
variable [FZ]
set_option linter.unusedVariables false
set_option linter.unusedSimpArgs false

/-! ### Bytes -/

abbrev D (s : ByteArray) : List UInt8 := s.data.toList

theorem extB {s t : ByteArray} (h : D s = D t) : s = t := by
  cases s; cases t
  congr
  exact Array.toList_inj.1 h

theorem D_app (s t : ByteArray) : D (s ++ t) = D s ++ D t := by simp [D]
theorem D_ext (s : ByteArray) (a b : Nat) : D (s.extract a b) = ((D s).drop a).take (b - a) := by
  simp only [D, ByteArray.data_extract, Array.toList_extract, List.extract_eq_take_drop]
theorem D_size (s : ByteArray) : s.size = (D s).length := Array.length_toList.symm
theorem D_ofInts (l : List Int) : D (ofInts l) = l.map fun n => UInt8.ofNat n.toNat := by simp [D, ofInts]
theorem toInts_D (s : ByteArray) : toInts s = (D s).map fun c => (c.toNat : Int) := rfl

theorem loopB (s : ByteArray) : ∀ (m i : Nat) (r : List UInt8), i + m = s.size → ByteArray.toList.loop s i r = r.reverse ++ (D s).drop i
  | 0, i, r, h => by
    rw [ByteArray.toList.loop, if_neg (by omega), List.drop_eq_nil_of_le (by rw [← D_size]; omega), List.append_nil]
  | m + 1, i, r, h => by
    have h1 : i < (D s).length := by rw [← D_size]; omega
    rw [ByteArray.toList.loop, if_pos (by omega), loopB s m (i + 1) _ (by omega), List.drop_eq_getElem_cons h1]
    have : s.get! i = (D s)[i] := by
      have h2 : i < s.data.size := by have := h1; simpa [D] using this
      simp only [ByteArray.get!, D, Array.getElem_toList]
      exact getElem!_pos s.data i h2
    rw [this]; simp

theorem toList_D (s : ByteArray) : s.toList = D s := by
  rw [ByteArray.toList, loopB s s.size 0 [] (by omega)]; rfl

theorem beqB {s t : ByteArray} : (s.toList == t.toList) = decide (s = t) := by
  rw [toList_D, toList_D, Bool.eq_iff_iff]
  simp only [beq_iff_eq, decide_eq_true_eq]
  exact ⟨extB, fun h => by rw [h]⟩

/-! ### A record -/

def front (k : Int) (b : ByteArray) : ByteArray := ⟨(UInt8.ofNat k.toNat :: UInt8.ofNat b.size :: (D b ++ List.replicate (58 - b.size) 0)).toArray⟩
def mkB (k : Int) (b : ByteArray) : ByteArray := front k b ++ ofInts (b4 (crc (toInts (front k b))))
def mkR (k : Int) (b : ByteArray) : ByteArray × Int := if k < 1 ∨ k > 8 then (ByteArray.empty, 22) else if b.size > 58 then (ByteArray.empty, 8) else (mkB k b, 0)

theorem front_D (k : Int) (b : ByteArray) : D (front k b) = UInt8.ofNat k.toNat :: UInt8.ofNat b.size :: (D b ++ List.replicate (58 - b.size) 0) := by simp [D, front]
theorem front_size {k : Int} {b : ByteArray} (h : b.size ≤ 58) : (front k b).size = 60 := by
  rw [D_size, front_D]; simp [← D_size]
  have := D_size b
  simp [D] at this
  omega

theorem crc_r (b : List Int) : 0 ≤ crc b ∧ crc b < 4294967296 := x32 _ _

theorem sumP {β : Type} {s : ByteArray} (h : 60 ≤ s.size) {K : ByteArray → Option β} : f59_1 20000 s K = K (ofInts (b4 (crc (toInts (s.extract 0 60))))) := by
  have hc := crc_r (toInts (s.extract 0 60))
  have hl : (toInts (s.extract 0 60)).length ≤ 60 := by
    rw [toInts_D, D_ext]; simp; omega
  rw [f59_1, ct (by omega), crcP (by omega), wu64 (by omega) (by omega), put4]

theorem ext_all {s : ByteArray} {n : Nat} (h : s.size = n) : s.extract 0 n = s := by
  apply extB
  rw [D_ext, List.drop_zero, List.take_of_length_le (by rw [← D_size]; omega)]

theorem rep0 (n : Nat) : D (rep ⟨#[0]⟩ n) = List.replicate n 0 := by
  show D ⟨(Lib.repeatL [0] n).toArray⟩ = _
  have : ∀ n, Lib.repeatL [(0 : UInt8)] n = List.replicate n 0 := fun n => by
    induction n with
    | zero => rfl
    | succ n ih => simp [Lib.repeatL, ih, List.replicate_succ]
  simp [D, this]

theorem u8n {n : Int} (h : 0 ≤ n ∧ n < 256) : IntKind.u8.wrap n = n := wu8 h.1 h.2

theorem shr0 {n : Int} (h : 0 ≤ n) : ishr .u64 n 0 = n := by
  have e : (2 : Int) ^ (min (0 : Int).toNat IntKind.u64.bits) = 1 := by decide
  rw [ishr, e, Int.fdiv_eq_ediv_of_nonneg _ (by omega), Int.ediv_one]

theorem makeP {β : Type} {k : Int} {b : ByteArray} (hb : b.size ≤ maxLen) {K : ByteArray → Int → Option β} : f37_1 20000 k b K = K (mkR k b).1 (mkR k b).2 := by
  rw [f37_1, mkR]
  by_cases h1 : k < 1
  · rw [ct h1, if_pos (.inl h1)]
  · by_cases h2 : k > 8
    · rw [cf h1, ct h2, if_pos (.inr h2)]
    · rw [cf h1, cf h2, if_neg (by omega)]
      by_cases h3 : b.size > 58
      · rw [ct (by omega), if_pos h3]
      · have hs2 : (ofInts [IntKind.u8.wrap k, IntKind.u8.wrap (b.size : Int)]).size = 2 := by rw [D_size, D_ofInts]; rfl
        have hs : (ofInts [IntKind.u8.wrap k, IntKind.u8.wrap (b.size : Int)] ++ b).size = 2 + b.size := by rw [D_size, D_app, List.length_append, ← D_size, ← D_size, hs2]
        rw [cf (by omega), if_neg h3, ct (by omega), f58_1, hs, w64 (by omega) (by omega), ct ⟨by omega, by omega, by
          have : (⟨#[0]⟩ : ByteArray).size = 1 := rfl
          rw [this]; omega⟩]
        have hf : ofInts [IntKind.u8.wrap k, IntKind.u8.wrap (b.size : Int)] ++ b ++ rep ⟨#[0]⟩ (60 - ((2 + b.size : Nat) : Int)).toNat = front k b := by
          apply extB
          rw [D_app, D_app, rep0, D_ofInts, front_D, u8n (by omega), u8n (by omega), show (60 - ((2 + b.size : Nat) : Int)).toNat = 58 - b.size by omega]
          simp
        have hfs := front_size (k := k) (b := b) (by omega)
        have hr : (rep ⟨#[0]⟩ (60 - ((2 + b.size : Nat) : Int)).toNat).size ≤ 60 := by rw [D_size, rep0]; simp; omega
        rw [ct (by omega), hf, sumP (by omega), ext_all hfs, ct (by
          rw [hfs, D_size, D_ofInts]; simp [b4])]
        rfl

noncomputable def Z64 : ByteArray := ofInts (List.replicate 64 0)
theorem zero64 {β : Type} {K : ByteArray → Option β} : f24_1 20000 K = K Z64 := by kernel_rfl
theorem Z64_D : D Z64 = List.replicate 64 0 := by rw [Z64, D_ofInts]; rfl

theorem makeR {β : Type} {k : Int} {b : ByteArray} (hb : b.size ≤ maxLen) {K : ByteArray → Int → Option β} : f40_1 20000 k b K = K (mkR k b).1 (mkR k b).2 := by
  rw [f40_1, mkR]
  by_cases h1 : k < 1
  · rw [ct h1, if_pos (.inl h1)]
  · by_cases h2 : k > 8
    · rw [cf h1, ct h2, if_pos (.inr h2)]
    · rw [cf h1, cf h2, if_neg (by omega)]
      by_cases h3 : b.size > 58
      · rw [ct (by omega), if_pos h3]
      · have hz : Z64.size = 64 := by rw [D_size, Z64_D]; simp
        have hs2 : (ofInts [k] ++ ofInts [(b.size : Int)]).size = 2 := by rw [D_size, D_app, D_ofInts, D_ofInts]; rfl
        have hs : (ofInts [k] ++ ofInts [(b.size : Int)] ++ b).size = 2 + b.size := by rw [D_size, D_app, List.length_append, ← D_size, ← D_size, hs2]
        rw [cf (by omega), if_neg h3, text1, text1, wu64 (by omega) (by omega), wu64 (by omega) (by omega), shr0 (by omega), shr0 (by omega), u8n (by omega), u8n (by omega)]
        have h11 : ∀ n : Int, (ofInts [n]).size = 1 := fun n => by rw [D_size, D_ofInts]; rfl
        rw [ct (by rw [h11, h11]; omega), ct (by rw [hs2]; omega), zero64, hs, ct (by omega)]
        have hf : ofInts [k] ++ ofInts [(b.size : Int)] ++ b ++ Z64.extract ((2 + b.size : Nat) : Int).toNat 60 = front k b := by
          apply extB
          rw [D_app, D_app, D_app, D_ext, D_ofInts, D_ofInts, front_D, Z64_D, show ((2 + b.size : Nat) : Int).toNat = 2 + b.size by omega, List.drop_replicate, List.take_replicate, show min (60 - (2 + b.size)) (64 - (2 + b.size)) = 58 - b.size by omega]
          simp
        have hfs := front_size (k := k) (b := b) (by omega)
        have hext : (Z64.extract ((2 + b.size : Nat) : Int).toNat 60).size ≤ 60 := by rw [D_size, D_ext]; simp; omega
        have hc := crc_r (toInts (front k b))
        have hl : (toInts (front k b)).length = 60 := by rw [toInts_D, List.length_map, ← D_size]; exact hfs
        rw [ct (by omega), hf, crcR (by omega), wu64 (by omega) (by omega), text4, ct (by
          rw [hfs, D_size, D_ofInts]; simp [b4])]
        rfl

/-! ### What a sector is -/

def byt (s : ByteArray) (i : Nat) : Int := ((s.data.getD i 0).toNat : Int)
theorem byt_r (s : ByteArray) (i : Nat) : 0 ≤ byt s i ∧ byt s i < 256 := by
  have := (s.data.getD i 0).toNat_lt
  unfold byt; omega
def sm (s : ByteArray) : ByteArray := ofInts (b4 (crc (toInts (s.extract 0 60))))
def zer (s : ByteArray) (n : Nat) : Bool := (((D s).drop n).take (60 - n)).all (· == 0)
def kd (s : ByteArray) : Int × Int := if s.size ≠ 64 then (0, 4) else if ((sm s).toList == (s.extract 60 64).toList) = false then (0, 9) else
  if byt s 0 < 1 ∨ byt s 0 > 8 ∨ byt s 1 > 58 ∨ zer s (2 + (byt s 1).toNat) = false then (0, 6) else (byt s 0, 0)

theorem dropW_nil {p : UInt8 → Bool} : ∀ l : List UInt8, l.dropWhile p = [] ↔ l.all p = true
  | [] => by simp
  | x :: r => by
    rw [List.dropWhile_cons, List.all_cons]
    cases h : p x with
    | true => simpa using dropW_nil r
    | false => simp

theorem dropW_head {p : UInt8 → Bool} : ∀ (l : List UInt8) {y : UInt8} {r : List UInt8}, l.dropWhile p = y :: r → p y = false
  | [], y, r, h => by cases h
  | x :: l, y, r, h => by
    rw [List.dropWhile_cons] at h
    cases hx : p x with
    | true => rw [hx, if_pos rfl] at h; exact dropW_head l h
    | false => rw [hx, if_neg (by simp)] at h; injection h with h1 h2; rw [← h1]; exact hx

theorem trim_nil (l : List UInt8) : Lib.trimS l [0] = [] ↔ l.all (· == 0) = true := by
  have hp : ∀ x : UInt8, [(0 : UInt8)].contains x = (x == 0) := fun x => by rw [Bool.eq_iff_iff]; simp
  rw [Lib.trimS, Lib.trimLeftS, Lib.trimRightS, dropW_nil]
  constructor
  · intro h
    cases hq : l.reverse.dropWhile ([(0 : UInt8)].contains ·) with
    | nil =>
      have := (dropW_nil _).1 hq
      rw [List.all_reverse] at this
      simpa [hp] using this
    | cons y r =>
      have h1 := dropW_head _ hq
      rw [hq, List.all_reverse, List.all_cons, h1] at h
      cases h
  · intro h
    have : l.reverse.dropWhile ([(0 : UInt8)].contains ·) = [] := (dropW_nil _).2 (by rw [List.all_reverse]; simpa [hp] using h)
    rw [this]; rfl

theorem trm0 (x : ByteArray) : ((trm x ⟨#[0]⟩).toList == ByteArray.empty.toList) = (D x).all (· == 0) := by
  rw [beqB, Bool.eq_iff_iff, decide_eq_true_eq, ← trim_nil]
  constructor
  · intro h
    have : D (trm x ⟨#[0]⟩) = [] := by rw [h]; rfl
    simpa [D, trm] using this
  · intro h
    apply extB
    show D (trm x ⟨#[0]⟩) = []
    simpa [D, trm] using h

theorem kindP {β : Type} {s : ByteArray} {K : Int → Int → Option β} : f51_1 20000 s K = K (kd s).1 (kd s).2 := by
  rw [f51_1, f26_1, kd]
  by_cases h1 : s.size = 64
  · have b0 := byt_r s 0
    have b1 := byt_r s 1
    have e0 : ((s.data.getD 0 0).toNat : Int) = byt s 0 := rfl
    have e1 : ((s.data.getD 1 0).toNat : Int) = byt s 1 := rfl
    rw [show ((s.size : Int) == 64) = true by simp; omega, Bool.not_true, cond_false, if_neg (by omega), ct (by omega), sumP (by omega), show ((s.size : Int).toNat) = 64 by omega, e0, e1, w64 (x := byt s 0) (by omega) (by omega), w64 (x := byt s 1) (by omega) (by omega), ← sm]
    cases h2 : ((sm s).toList == (s.extract 60 64).toList) with
    | false => rfl
    | true =>
      rw [Bool.not_true, cond_false, if_neg (by simp), ct (by omega), ct (by omega)]
      by_cases h3 : byt s 0 < 1
      · rw [ct h3, if_pos (.inl h3)]
      · by_cases h4 : byt s 0 > 8
        · rw [cf h3, ct h4, if_pos (.inr (.inl h4))]
        · by_cases h5 : byt s 1 > 58
          · rw [cf h3, cf h4, ct h5, if_pos (.inr (.inr (.inl h5)))]
          · have hn : (2 + byt s 1).toNat = 2 + (byt s 1).toNat := by omega
            have hx : D (s.extract (2 + byt s 1).toNat 60) = ((D s).drop (2 + (byt s 1).toNat)).take (60 - (2 + (byt s 1).toNat)) := by rw [D_ext, hn]
            have hxs : (s.extract (2 + byt s 1).toNat 60).size ≤ 64 := by rw [D_size, hx]; simp; omega
            rw [cf h3, cf h4, cf h5, w64 (x := 2 + byt s 1) (by omega) (by omega), ct (by omega), f68_1, ct ⟨by omega, by decide, by decide⟩, trm0, hx, ← zer]
            cases h6 : zer s (2 + (byt s 1).toNat) with
            | true => rw [Bool.not_true, cond_false, if_neg (by simp; omega)]
            | false => rw [Bool.not_false, cond_true, if_pos (.inr (.inr (.inr rfl)))]
  · rw [show ((s.size : Int) == 64) = false by simp; omega, Bool.not_false, cond_true, if_pos h1]

theorem zerL {β : Type} {s : ByteArray} {K0 K1 : Option β} (hs : s.size = 64) : ∀ (m i k : Nat), i + m = 60 → m < k → f57_1_l8 20000 s K0 K1 k (i : Int) = if zer s i then K1 else K0
  | _, _, 0, _, h => by omega
  | 0, i, k + 1, hi, _ => by rw [f57_1_l8, cf (by omega), zer, show 60 - i = 0 by omega]; simp
  | m + 1, i, k + 1, hi, hk => by
    have hl : i < (D s).length := by rw [← D_size]; omega
    have hg : s.data.getD i 0 = (D s)[i] := by
      have h2 : i < s.data.size := by have := hl; simpa [D] using this
      simp only [Array.getD_eq_getD_getElem?, Array.getElem?_eq_getElem h2, Option.getD_some, D, Array.getElem_toList]
    rw [f57_1_l8, ct (by omega), ct (by omega), show ((i : Int)).toNat = i from rfl, hg, w64 (by omega) (by omega), zer, List.drop_eq_getElem_cons hl, show 60 - i = (60 - (i + 1)) + 1 by omega, List.take_succ_cons, List.all_cons, ← zer]
    have ih := zerL (K0 := K0) (K1 := K1) hs m (i + 1) k (by omega) (by omega)
    push_cast at ih
    by_cases h0 : (D s)[i] = 0
    · rw [h0, show (((0 : UInt8).toNat : Int) != 0) = false from rfl, cond_false, ih]; simp
    · have : (((D s)[i].toNat : Int) != 0) = true := by
        simp only [bne_iff_ne, ne_eq]
        intro h
        exact h0 (UInt8.toNat_inj.1 (by simpa using h))
      rw [this, cond_true, beq_eq_false_iff_ne.2 h0]; simp

theorem kindR {β : Type} {s : ByteArray} {K : Int → Int → Option β} : f57_1 20000 s K = K (kd s).1 (kd s).2 := by
  rw [f57_1, f28_1, kd]
  by_cases h1 : s.size = 64
  · have b0 := byt_r s 0
    have b1 := byt_r s 1
    have e0 : ((s.data.getD 0 0).toNat : Int) = byt s 0 := rfl
    have e1 : ((s.data.getD 1 0).toNat : Int) = byt s 1 := rfl
    have hc := crc_r (toInts (s.extract 0 60))
    have hl : (toInts (s.extract 0 60)).length ≤ 60 := by
      rw [toInts_D, D_ext]; simp; omega
    rw [show ((s.size : Int) == 64) = true by simp; omega, Bool.not_true, cond_false, if_neg (by omega), ct (by omega), ct (by omega), crcR (by omega), wu64 (by omega) (by omega), text4, show ((s.size : Int).toNat) = 64 by omega, e0, e1, w64 (x := byt s 0) (by omega) (by omega), w64 (x := byt s 1) (by omega) (by omega), ← sm]
    cases h2 : ((sm s).toList == (s.extract 60 64).toList) with
    | false => rfl
    | true =>
      rw [Bool.not_true, cond_false, if_neg (by simp), ct (by omega)]
      by_cases h3 : byt s 0 < 1
      · rw [ct h3, if_pos (.inl h3)]
      · by_cases h4 : byt s 0 > 8
        · rw [cf h3, ct (by omega), ct h4, if_pos (.inr (.inl h4))]
        · by_cases h5 : byt s 1 > 58
          · rw [cf h3, ct (by omega), cf h4, ct (by omega), ct h5, if_pos (.inr (.inr (.inl h5)))]
          · rw [cf h3, ct (by omega), cf h4, ct (by omega), cf h5, ct (by omega), w64 (x := 2 + byt s 1) (by omega) (by omega), ct (by omega), show (2 + byt s 1) = ((2 + (byt s 1).toNat : Nat) : Int) by omega, zerL h1 (60 - (2 + (byt s 1).toNat)) (2 + (byt s 1).toNat) 20000 (by omega) (by omega)]
            cases h6 : zer s (2 + (byt s 1).toNat) with
            | true => rw [if_pos rfl, if_neg (by simp; omega)]
            | false => rw [if_neg (by simp), if_pos (.inr (.inr (.inr rfl)))]
  · rw [show ((s.size : Int) == 64) = false by simp; omega, Bool.not_false, cond_true, if_pos h1]

theorem kd_size {s : ByteArray} (h : (kd s).2 = 0) : s.size = 64 ∧ byt s 1 ≤ 58 ∧ zer s (2 + (byt s 1).toNat) = true ∧ (kd s).1 = byt s 0 ∧ 1 ≤ byt s 0 ∧ byt s 0 ≤ 8 ∧ ((sm s).toList == (s.extract 60 64).toList) = true := by
  unfold kd at h ⊢
  split at h
  · cases h
  · rename_i h1
    split at h
    · cases h
    · rename_i h2
      split at h
      · cases h
      · rename_i h3
        rw [if_neg h1, if_neg h2, if_neg h3]
        refine ⟨by omega, by omega, ?_, rfl, by omega, by omega, by simpa using h2⟩
        cases hz : zer s (2 + (byt s 1).toNat) with
        | true => rfl
        | false => exact (h3 (.inr (.inr (.inr hz)))).elim

def opn (k : Int) (s : ByteArray) : ByteArray × Int := if (kd s).2 ≠ 0 then (ByteArray.empty, (kd s).2) else if (kd s).1 ≠ k then (ByteArray.empty, 22) else (s.extract 2 (2 + (byt s 1).toNat), 0)

theorem openP {β : Type} {k : Int} {s : ByteArray} {K : ByteArray → Int → Option β} : f31_1 20000 k s K = K (opn k s).1 (opn k s).2 := by
  rw [f31_1, kindP, opn]
  have e1 : ((s.data.getD 1 0).toNat : Int) = byt s 1 := rfl
  have b1 := byt_r s 1
  by_cases h1 : (kd s).2 = 0
  · obtain ⟨q1, q2, _⟩ := kd_size h1
    rw [h1, show ((0 : Int) != 0) = false from rfl, cond_false, if_neg (by simp), e1, w64 (x := byt s 1) (by omega) (by omega), w64 (x := 2 + byt s 1) (by omega) (by omega)]
    by_cases h2 : (kd s).1 = k
    · rw [h2, show (k != k) = false by simp, cond_false, if_neg (by simp), ct (by omega), ct (by omega), show (2 + byt s 1).toNat = 2 + (byt s 1).toNat by omega]
    · rw [show ((kd s).1 != k) = true by simp [h2], cond_true, if_pos h2]
  · rw [show ((kd s).2 != 0) = true by simp [h1], cond_true, if_pos h1]

theorem openR {β : Type} {k : Int} {s : ByteArray} {K : ByteArray → Int → Option β} : f34_1 20000 k s K = K (opn k s).1 (opn k s).2 := by
  rw [f34_1, kindR, opn]
  have e1 : ((s.data.getD 1 0).toNat : Int) = byt s 1 := rfl
  have b1 := byt_r s 1
  by_cases h1 : (kd s).2 = 0
  · obtain ⟨q1, q2, _⟩ := kd_size h1
    rw [h1, show ((0 : Int) != 0) = false from rfl, cond_false, if_neg (by simp), e1, w64 (x := byt s 1) (by omega) (by omega), w64 (x := 2 + byt s 1) (by omega) (by omega)]
    by_cases h2 : (kd s).1 = k
    · rw [h2, show (k != k) = false by simp, cond_false, if_neg (by simp), ct (by omega), ct (by omega), show (2 + byt s 1).toNat = 2 + (byt s 1).toNat by omega]
    · rw [show ((kd s).1 != k) = true by simp [h2], cond_true, if_pos h2]
  · rw [show ((kd s).2 != 0) = true by simp [h1], cond_true, if_pos h1]

end Go.Proofs.YtillbabmlfjegaaGreatDoor.X
end

section
/- Records: what is made is opened again, and the other way round. -/
namespace Go.Proofs.YtillbabmlfjegaaGreatDoor.X
open Go Go.Proofs.YtillbabmlfjegaaGreatDoor.Ev
set_option linter.unusedSectionVars false
variable [FZ]
set_option linter.unusedVariables false
set_option linter.unusedSimpArgs false

theorem mkB_D (k : Int) (b : ByteArray) : D (mkB k b) = UInt8.ofNat k.toNat :: UInt8.ofNat b.size :: (D b ++ (List.replicate (58 - b.size) 0 ++ D (ofInts (b4 (crc (toInts (front k b))))))) := by
  rw [mkB, D_app, front_D]; simp

theorem b4_size (n : Int) : (ofInts (b4 n)).size = 4 := by rw [D_size, D_ofInts]; rfl

theorem mkB_size {k : Int} {b : ByteArray} (h : b.size ≤ 58) : (mkB k b).size = 64 := by
  have hf := front_size (k := k) h
  have hc := b4_size (crc (toInts (front k b)))
  rw [D_size] at hf hc
  rw [D_size, mkB, D_app, List.length_append, hf, hc]

theorem mkB_front {k : Int} {b : ByteArray} (h : b.size ≤ 58) : (mkB k b).extract 0 60 = front k b := by
  have hf := front_size (k := k) h
  rw [D_size] at hf
  apply extB
  rw [D_ext, mkB, D_app, List.drop_zero, List.take_append_of_le_length (by omega), List.take_of_length_le (by omega)]

theorem mkB_sum {k : Int} {b : ByteArray} (h : b.size ≤ 58) : (mkB k b).extract 60 64 = sm (mkB k b) := by
  have hf := front_size (k := k) h
  have hc := b4_size (crc (toInts (front k b)))
  rw [D_size] at hf hc
  rw [sm, mkB_front h]
  apply extB
  rw [D_ext, mkB, D_app, List.drop_append_of_le_length (by omega), List.drop_eq_nil_of_le (by omega), List.nil_append, List.take_of_length_le (by omega)]

theorem getD_D (s : ByteArray) (i : Nat) : s.data.getD i 0 = (D s).getD i 0 := by simp [D]

theorem mkB_b0 {k : Int} {b : ByteArray} (h1 : 1 ≤ k) (h2 : k ≤ 8) : byt (mkB k b) 0 = k := by
  rw [byt, getD_D, mkB_D]
  show ((UInt8.ofNat k.toNat).toNat : Int) = k
  rw [UInt8.toNat_ofNat']; omega

theorem mkB_b1 {k : Int} {b : ByteArray} (h : b.size ≤ 58) : byt (mkB k b) 1 = (b.size : Int) := by
  rw [byt, getD_D, mkB_D]
  show ((UInt8.ofNat b.size).toNat : Int) = b.size
  rw [UInt8.toNat_ofNat']; omega

theorem mkB_drop {k : Int} {b : ByteArray} : (D (mkB k b)).drop (2 + b.size) = List.replicate (58 - b.size) 0 ++ D (ofInts (b4 (crc (toInts (front k b))))) := by
  have h := D_size b
  rw [mkB_D, show 2 + b.size = b.size + 1 + 1 by omega, List.drop_succ_cons, List.drop_succ_cons, List.drop_append_of_le_length (by omega), List.drop_eq_nil_of_le (by omega), List.nil_append]

theorem mkB_kd {k : Int} {b : ByteArray} (h1 : 1 ≤ k) (h2 : k ≤ 8) (h : b.size ≤ 58) : kd (mkB k b) = (k, 0) := by
  rw [kd, mkB_size h, if_neg (by omega), mkB_sum h, if_neg (by simp), mkB_b0 h1 h2, mkB_b1 h, if_neg]
  rw [show (2 + ((b.size : Nat) : Int).toNat) = 2 + b.size by omega, zer, mkB_drop, List.take_append_of_le_length (by simp; omega), List.take_of_length_le (by simp; omega)]
  simp; omega

theorem mkB_open {k : Int} {b : ByteArray} (h1 : 1 ≤ k) (h2 : k ≤ 8) (h : b.size ≤ 58) : opn k (mkB k b) = (b, 0) := by
  have hs := D_size b
  rw [opn, mkB_kd h1 h2 h, if_neg (by simp), if_neg (by simp), mkB_b1 h, show (2 + ((b.size : Nat) : Int).toNat) = 2 + b.size by omega]
  congr 1
  apply extB
  rw [D_ext, mkB_D, show (2 : Nat) = 1 + 1 from rfl, List.drop_succ_cons, List.drop_succ_cons, List.drop_zero, show 1 + 1 + b.size - (1 + 1) = b.size by omega, List.take_append_of_le_length (by omega), List.take_of_length_le (by omega)]

theorem all0 : ∀ (l : List UInt8), l.all (· == 0) = true → l = List.replicate l.length 0
  | [], _ => rfl
  | x :: r, h => by
    rw [List.all_cons, Bool.and_eq_true, beq_iff_eq] at h
    rw [List.length_cons, List.replicate_succ, ← all0 r h.2, h.1]

theorem opn_mk {k : Int} {s b : ByteArray} (h : opn k s = (b, 0)) : mkR k b = (s, 0) := by
  unfold opn at h
  split at h
  · rename_i h1
    injection h with _ h2
    exact (h1 h2).elim
  · rename_i h1
    split at h
    · injection h with _ h2; cases h2
    · rename_i h2
      injection h with h3 _
      have h1' : (kd s).2 = 0 := Classical.not_not.1 h1
      obtain ⟨q1, q2, q3, q4, q5, q6, q7⟩ := kd_size h1'
      have hk : byt s 0 = k := q4.symm.trans (Classical.not_not.1 h2)
      have hsz : (D s).length = 64 := by rw [← D_size]; exact q1
      have hb1 := byt_r s 1
      have hDb : D b = ((D s).drop 2).take (byt s 1).toNat := by rw [← h3, D_ext]; congr 1; omega
      have hbs : b.size = (byt s 1).toNat := by rw [D_size, hDb]; simp; omega
      have hmem : ∀ i, i < 64 → ∃ x, (D s)[i]? = some x := fun i hi => ⟨_, List.getElem?_eq_getElem (by omega)⟩
      have hf : front k b = s.extract 0 60 := by
        apply extB
        rw [front_D, D_ext, List.drop_zero, hbs, hDb, ← hk, byt, getD_D, byt, getD_D]
        rw [byt, getD_D] at q3 q2 hb1
        generalize hn : (((D s).getD 1 0).toNat : Int) = n at q3 q2 hb1
        match hq : D s, hsz with
        | x :: y :: r, hsz =>
          rw [hq] at hn
          have hx : UInt8.ofNat ((((x :: y :: r).getD 0 0).toNat : Int).toNat) = x := by simp
          have hy : UInt8.ofNat n.toNat = y := by rw [← hn]; simp
          rw [hx, hy]
          rw [zer, hq] at q3
          have hz := all0 _ q3
          rw [show 2 + n.toNat = n.toNat + 1 + 1 by omega, List.drop_succ_cons, List.drop_succ_cons] at hz
          simp only [List.length_cons] at hsz
          have hlen : (List.take (60 - (n.toNat + 1 + 1)) (List.drop n.toNat r)).length = 58 - n.toNat := by simp; omega
          rw [hlen] at hz
          rw [← hz, show (2 : Nat) = 1 + 1 from rfl, List.drop_succ_cons, List.drop_succ_cons, List.drop_zero, show 60 - 0 = 58 + 1 + 1 from rfl, List.take_succ_cons, List.take_succ_cons, show 60 - (n.toNat + 1 + 1) = 58 - n.toNat by omega]
          congr 2
          have := List.take_append_drop n.toNat (r.take 58)
          rw [List.take_take, List.drop_take, Nat.min_eq_left (by omega)] at this
          exact this
      rw [mkR, if_neg (by omega), if_neg (by omega)]
      congr 1
      have q8 : sm s = s.extract 60 64 := by
        rw [beqB] at q7; exact of_decide_eq_true q7
      rw [mkB, hf, ← sm, q8]
      apply extB
      rw [D_app, D_ext, D_ext, List.drop_zero, show 64 - 60 = 4 from rfl, List.take_of_length_le (l := (D s).drop 60) (by simp; omega)]
      exact List.take_append_drop 60 (D s)

end Go.Proofs.YtillbabmlfjegaaGreatDoor.X
end

section
/- Numbers read from bytes; the code's and the document's, in one form. -/
namespace Go.Proofs.YtillbabmlfjegaaGreatDoor.X
open Go Go.Proofs.YtillbabmlfjegaaGreatDoor.Ev
set_option linter.unusedSectionVars false
variable [FZ]
set_option linter.unusedVariables false
set_option linter.unusedSimpArgs false

def num (v : Int) (l : List Int) : Int := l.foldl (fun v b => v * 256 + b) v

theorem shlor {v b : Int} (hv : 0 ≤ v ∧ v < 72057594037927936) (hb : 0 ≤ b ∧ b < 256) : ior .u64 (ishl .u64 v 8) b = v * 256 + b := by
  obtain ⟨V, rfl⟩ : ∃ V : Nat, v = (V : Int) := ⟨v.toNat, by omega⟩
  obtain ⟨B, rfl⟩ : ∃ B : Nat, b = (B : Int) := ⟨b.toNat, by omega⟩
  have e : (2 : Int) ^ (min (8 : Int).toNat IntKind.u64.bits) = 256 := by decide
  have e1 : ishl .u64 (V : Int) 8 = ((V * 256 : Nat) : Int) := by
    rw [ishl, e, wu64 (by omega) (by omega)]; omega
  rw [e1, or64 (by omega) (by omega)]
  have := Nat.two_pow_add_eq_or_of_lt (i := 8) (b := B) (by omega) V
  have h2 : 2 ^ 8 * V = V * 256 := by omega
  rw [h2] at this
  rw [← this]; omega

theorem getPl {β : Type} {F at_ w : Nat} {l : List Int} {K : Int → Option β} (hw : w ≤ 8) (hl : at_ + w ≤ l.length) (hb : ∀ x ∈ l, 0 ≤ x ∧ x < 256) : ∀ (m i k : Nat) (v : Int), m + i = w → m < k → 0 ≤ v ∧ v < 256 ^ i →
    f69_1_l7 F at_ w (w : Int) l K k v (i : Int) = K (num v ((l.drop (at_ + i)).take m))
  | _, _, 0, _, _, h, _ => by omega
  | 0, i, k + 1, v, hi, _, _ => by rw [f69_1_l7, cf (by omega)]; rfl
  | m + 1, i, k + 1, v, hi, hk, hv => by
    have h1 : at_ + i < l.length := by omega
    have hx := hb _ (List.getElem_mem h1)
    have hg : l.getD (at_ + (i : Int).toNat) 0 = l[at_ + i] := by simp [h1]
    have hp : (256 : Int) ^ i ≤ 256 ^ 7 := by
      have : (256 : Nat) ^ i ≤ 256 ^ 7 := Nat.pow_le_pow_right (by decide) (by omega)
      have h := Int.ofNat_le.2 this
      rw [Int.natCast_pow, Int.natCast_pow] at h
      exact h
    have hv2 : v * 256 + l[at_ + i] < 256 ^ (i + 1) := by rw [Int.pow_succ]; omega
    rw [f69_1_l7, ct (by omega), ct (by omega), ct (by omega), hg, wu64 (by omega) (by omega), shlor ⟨hv.1, by omega⟩ hx, w64 (by omega) (by omega), List.drop_eq_getElem_cons h1, List.take_succ_cons, num, List.foldl_cons, ← num]
    exact getPl hw hl hb m (i + 1) k _ (by omega) (by omega) ⟨by omega, hv2⟩

theorem getRl {β : Type} {F at_ w : Nat} {l : List Int} {K : Int → Option β} (hw : w ≤ 8) (hl : at_ + w ≤ l.length) (hll : l.length ≤ 100000) (hb : ∀ x ∈ l, 0 ≤ x ∧ x < 256) : ∀ (m i k : Nat) (v : Int), m + i = w → m < k → 0 ≤ v ∧ v < 256 ^ i →
    f36_1_l7 F (at_ : Int) (w : Int) l K k v (i : Int) = K (num v ((l.drop (at_ + i)).take m))
  | _, _, 0, _, _, h, _ => by omega
  | 0, i, k + 1, v, hi, _, _ => by rw [f36_1_l7, cf (by omega)]; rfl
  | m + 1, i, k + 1, v, hi, hk, hv => by
    have h1 : at_ + i < l.length := by omega
    have hx := hb _ (List.getElem_mem h1)
    have hg : l.getD (0 + ((at_ : Int) + (i : Int)).toNat) 0 = l[at_ + i] := by
      rw [show 0 + ((at_ : Int) + (i : Int)).toNat = at_ + i by omega]; simp [h1]
    have hp : (256 : Int) ^ i ≤ 256 ^ 7 := by
      have : (256 : Nat) ^ i ≤ 256 ^ 7 := Nat.pow_le_pow_right (by decide) (by omega)
      have h := Int.ofNat_le.2 this
      rw [Int.natCast_pow, Int.natCast_pow] at h
      exact h
    have hv2 : v * 256 + l[at_ + i] < 256 ^ (i + 1) := by rw [Int.pow_succ]; omega
    rw [f36_1_l7, ct (by omega), w64 (x := (at_ : Int) + (i : Int)) (by omega) (by omega), ct (by omega), ct (by omega), hg, wu64 (x := l[at_ + i]) (by omega) (by omega), wu64 (x := v * 256) (by omega) (by omega), wu64 (by omega) (by omega), w64 (by omega) (by omega), List.drop_eq_getElem_cons h1, List.take_succ_cons, num, List.foldl_cons, ← num]
    exact getRl hw hl hll hb m (i + 1) k _ (by omega) (by omega) ⟨by omega, hv2⟩

/-- A number of w bytes from a place on, or that there are not so many. -/
def gt (at_ w : Nat) (l : List Int) : Int × Int := if at_ + w ≤ l.length then (num 0 ((l.drop at_).take w), 0) else (0, 7)

theorem getP {β : Type} {at_ w : Nat} {l : List Int} {K : Int → Int → Option β} (h1 : 1 ≤ w) (hw : w ≤ 8) (hat : at_ ≤ 100000) (hll : l.length ≤ 100000) (hb : ∀ x ∈ l, 0 ≤ x ∧ x < 256) : f69_1 20000 (at_ : Int) (w : Int) l K = K (gt at_ w l).1 (gt at_ w l).2 := by
  rw [f69_1, f76_1, ct (by omega), decide_eq_true (show (w : Int) ≤ 8 by omega), Bool.not_true, cond_false, cf (by omega), gt]
  by_cases h2 : (at_ : Int) > ((l.length : Nat) : Int)
  · rw [ct h2, if_neg (by omega)]
  · rw [cf h2, w64 (by omega) (by omega)]
    by_cases h3 : ((l.length : Nat) : Int) - (at_ : Int) < (w : Int)
    · rw [ct h3, if_neg (by omega)]
    · rw [cf h3, w64 (by omega) (by omega), ct (by omega), if_pos (by omega), show ((at_ : Int) + (w : Int) - (at_ : Int)).toNat = w by omega, show 0 + ((at_ : Int)).toNat = at_ by omega]
      exact getPl (K := fun x8 => K x8 0) hw (by omega) hb w 0 20000 0 (by omega) (by omega) (by simp)

theorem getR {β : Type} {at_ w : Nat} {l : List Int} {K : Int → Int → Option β} (h1 : 1 ≤ w) (hw : w ≤ 8) (hat : at_ ≤ 100000) (hll : l.length ≤ 100000) (hb : ∀ x ∈ l, 0 ≤ x ∧ x < 256) : f36_1 20000 (at_ : Int) (w : Int) l K = K (gt at_ w l).1 (gt at_ w l).2 := by
  rw [f36_1, cf (by omega), cf (by omega), cf (by omega), gt]
  by_cases h2 : (at_ : Int) > ((l.length : Nat) : Int)
  · rw [ct h2, if_neg (by omega)]
  · rw [cf h2, w64 (by omega) (by omega)]
    by_cases h3 : ((l.length : Nat) : Int) - (at_ : Int) < (w : Int)
    · rw [ct h3, if_neg (by omega)]
    · rw [cf h3, if_pos (by omega)]
      exact getRl (K := fun x6 => K x6 0) hw (by omega) hll hb w 0 20000 0 (by omega) (by omega) (by simp)

end Go.Proofs.YtillbabmlfjegaaGreatDoor.X
end

section
/- Numbers of eight bytes; reading them. -/
namespace Go.Proofs.YtillbabmlfjegaaGreatDoor.X
open Go Go.Proofs.YtillbabmlfjegaaGreatDoor.Ev
set_option linter.unusedSectionVars false
variable [FZ]
set_option linter.unusedVariables false
set_option linter.unusedSimpArgs false

theorem bnf {a b : Int} (h : a = b) : (a != b) = false := by simp [h]
theorem bnt {a b : Int} (h : a ≠ b) : (a != b) = true := by simp [h]

/-! ### Numbers of eight bytes -/

def b8 (n : Int) : List Int := [IntKind.u8.wrap (ishr .u64 n 56), IntKind.u8.wrap (ishr .u64 n 48), IntKind.u8.wrap (ishr .u64 n 40), IntKind.u8.wrap (ishr .u64 n 32), IntKind.u8.wrap (ishr .u64 n 24), IntKind.u8.wrap (ishr .u64 n 16), IntKind.u8.wrap (ishr .u64 n 8), IntKind.u8.wrap (ishr .u64 n 0)]
theorem put8 {β : Type} {n : Int} {K : List Int → Option β} : f60_1 20000 8 n [] K = K (b8 n) := by kernel_rfl
theorem text8 {β : Type} {n : Int} {K : ByteArray → Option β} : f42_1 20000 8 n K = K (ofInts (b8 n)) := by kernel_rfl

theorem b8_r (n : Int) : ∀ x ∈ b8 n, 0 ≤ x ∧ x < 256 := by
  intro x hx
  simp only [b8, List.mem_cons, List.not_mem_nil, or_false] at hx
  rcases hx with rfl | rfl | rfl | rfl | rfl | rfl | rfl | rfl <;> (rw [wu8m]; omega)

theorem shrN {n : Int} (h : 0 ≤ n) : ishr .u64 n 56 = n / 72057594037927936 ∧ ishr .u64 n 48 = n / 281474976710656 ∧ ishr .u64 n 40 = n / 1099511627776 ∧ ishr .u64 n 32 = n / 4294967296 ∧ ishr .u64 n 24 = n / 16777216 ∧ ishr .u64 n 16 = n / 65536 ∧ ishr .u64 n 8 = n / 256 ∧ ishr .u64 n 0 = n := by
  have e : ∀ (s : Int) (d : Int), (2 : Int) ^ (min s.toNat IntKind.u64.bits) = d → 0 < d → ishr .u64 n s = n / d := fun s d h1 h2 => by
    rw [ishr, h1, Int.fdiv_eq_ediv_of_nonneg _ (by omega)]
  refine ⟨e 56 _ (by decide) (by decide), e 48 _ (by decide) (by decide), e 40 _ (by decide) (by decide), e 32 _ (by decide) (by decide), e 24 _ (by decide) (by decide), e 16 _ (by decide) (by decide), e 8 _ (by decide) (by decide), ?_⟩
  rw [e 0 1 (by decide) (by decide)]; omega

theorem num8 {n : Int} (h : 0 ≤ n ∧ n < 18446744073709551616) : num 0 (b8 n) = n := by
  obtain ⟨e1, e2, e3, e4, e5, e6, e7, e8⟩ := shrN h.1
  simp only [num, b8, List.foldl_cons, List.foldl_nil, wu8m, e1, e2, e3, e4, e5, e6, e7, e8]
  omega

theorem toInts_ofInts {l : List Int} (h : ∀ x ∈ l, 0 ≤ x ∧ x < 256) : toInts (ofInts l) = l := by
  rw [toInts_D, D_ofInts, List.map_map]
  conv => rhs; rw [← List.map_id l]
  apply List.map_congr_left
  intro x hx
  have := h x hx
  simp only [Function.comp, id, UInt8.toNat_ofNat']
  omega

theorem toInts_r (s : ByteArray) : ∀ x ∈ toInts s, 0 ≤ x ∧ x < 256 := by
  intro x hx
  rw [toInts_D] at hx
  obtain ⟨c, _, rfl⟩ := List.mem_map.1 hx
  have := c.toNat_lt
  omega

theorem b8_size (n : Int) : (ofInts (b8 n)).size = 8 := by rw [D_size, D_ofInts]; rfl
theorem app_size (s t : ByteArray) : (s ++ t).size = s.size + t.size := by rw [D_size, D_app, List.length_append, ← D_size, ← D_size]
theorem toInts_size (s : ByteArray) : (toInts s).length = s.size := by rw [toInts_D, List.length_map, ← D_size]

/-- The next number of a reader: what it is, why there is none, what is left. -/
def nm (w : Nat) (e : Int) (l : List Int) : Int × Int × List Int := if e ≠ 0 then (0, e, l) else if w ≤ l.length then (num 0 (l.take w), 0, l.drop w) else (0, 7, l)

theorem numC {β : Type} {w : Nat} {e : Int} {l : List Int} {K : Int → Int → List Int → Option β} (h1 : 1 ≤ w) (hw : w ≤ 8) (hll : l.length ≤ 100000) (hb : ∀ x ∈ l, 0 ≤ x ∧ x < 256) :
    f55_1 20000 (w : Int) e l K = K (nm w e l).1 (nm w e l).2.1 (nm w e l).2.2 := by
  have hg := fun K => getP (β := β) (at_ := 0) (w := w) (l := l) (K := K) h1 hw (by omega) hll hb
  rw [f55_1, nm]
  by_cases he : e = 0
  · subst he
    rw [show ((0 : Int) != 0) = false from rfl, cond_false, if_neg (by simp)]
    refine (hg _).trans ?_
    rw [gt]
    by_cases h2 : w ≤ l.length
    · rw [if_pos (by omega), if_pos h2, List.drop_zero]
      show cond ((0 : Int) != 0) _ _ = _
      rw [bnf rfl, cond_false, ct ⟨by omega, by omega, by omega⟩, show 0 + (w : Int).toNat = w by omega, List.take_of_length_le (l := l.drop w) (by simp)]
    · rw [if_neg (by omega), if_neg h2]
      rfl
  · rw [bnt he, cond_true, if_pos he]

theorem opn_size (k : Int) (s : ByteArray) : (opn k s).1.size ≤ 58 := by
  unfold opn
  split
  · show ByteArray.empty.size ≤ 58; decide
  · rename_i h1
    split
    · show ByteArray.empty.size ≤ 58; decide
    · obtain ⟨q1, q2, _⟩ := kd_size (Classical.not_not.1 h1)
      have := byt_r s 1
      show (s.extract 2 (2 + (byt s 1).toNat)).size ≤ 58
      rw [D_size, D_ext]; simp; omega

theorem big60 : 60 ≤ maxLen := by decide

theorem cond_ff' {α : Sort _} {a b : α} : cond (!true) a b = b := rfl
theorem Z64_b0 : byt Z64 0 = 0 := by rw [byt, getD_D, Z64_D]; rfl

theorem opn_zero (k : Int) : (opn k Z64).2 ≠ 0 := by
  unfold opn
  split
  · assumption
  · rename_i h
    obtain ⟨_, _, _, _, q5, _⟩ := kd_size (Classical.not_not.1 h)
    rw [Z64_b0] at q5; omega

end Go.Proofs.YtillbabmlfjegaaGreatDoor.X
end

section
/- Maps of sectors as bytes; saved on a disk, and loaded: the code's and the document's, in one form. -/
namespace Go.Proofs.YtillbabmlfjegaaGreatDoor.X
open Go Go.Proofs.YtillbabmlfjegaaGreatDoor.Ev
set_option linter.unusedSectionVars false
variable [FZ]
set_option linter.unusedVariables false
set_option linter.unusedSimpArgs false

abbrev U64 (n : Int) : Prop := 0 ≤ n ∧ n < 18446744073709551616

theorem tiA (s t : ByteArray) : toInts (s ++ t) = toInts s ++ toInts t := by rw [toInts_D, toInts_D, toInts_D, D_app, List.map_append]
theorem oiA (l r : List Int) : ofInts (l ++ r) = ofInts l ++ ofInts r := by
  apply extB
  rw [D_app, D_ofInts, D_ofInts, D_ofInts, List.map_append]

theorem putS {β : Type} {n s : Int} {v l : List Int} {k : Nat} {K : List Int → Option β} (h : 0 ≤ s ∧ s ≤ 100) (hl : l.length ≤ 2000) : f60_1_l6 20000 n v K (k + 1) s l = f60_1_l6 20000 n v K k (s - 8) (l ++ [IntKind.u8.wrap (ishr .u64 n s)]) := by
  rw [f60_1_l6, ct (by omega), cf (by omega), ct (by omega), w64 (by omega) (by omega)]

theorem putE {β : Type} {n : Int} {v l : List Int} {k : Nat} {K : List Int → Option β} : f60_1_l6 20000 n v K (k + 1) (-8) l = K l := by
  rw [f60_1_l6, cf (by omega)]

theorem putL {β : Type} {n : Int} {v l : List Int} {k : Nat} {K : List Int → Option β} (hl : l.length ≤ 1000) : f60_1_l6 20000 n v K (k + 1 + 1 + 1 + 1 + 1 + 1 + 1 + 1 + 1) 56 l = K (l ++ b8 n) := by
  rw [putS (by omega) (by omega), putS (by omega) (by simp; omega), putS (by omega) (by simp; omega), putS (by omega) (by simp; omega), putS (by omega) (by simp; omega), putS (by omega) (by simp; omega), putS (by omega) (by simp; omega), putS (by omega) (by simp; omega)]
  refine putE.trans ?_
  congr 1
  simp [b8]

theorem putA {β : Type} {n : Int} {l : List Int} {K : List Int → Option β} (hl : l.length ≤ 1000) : f60_1 20000 8 n l K = K (l ++ b8 n) := by
  rw [f60_1, w64 (x := ((l.length : Nat) : Int) + 8) (by omega) (by omega), ct ⟨by omega, by omega, by omega, by omega⟩, ct (by omega), f76_1, ct (by omega), decide_eq_true (show (8 : Int) ≤ 8 by omega), cond_ff', List.take_zero, List.nil_append]
  exact putL (k := 19991) (K := fun x => K x) hl

theorem bytL {β : Type} {x y : Int} {k : Nat} {K : List Int → Option β} : f61_1_l3 20000 [x, y] K (k + 1 + 1 + 1) 0 [] = K (b8 x ++ b8 y) := by
  have hl : (b8 x).length = 8 := rfl
  rw [f61_1_l3, ct (by omega), ct (by omega), putA (by simp), w64 (by omega) (by omega), f61_1_l3, ct (by omega), ct (by omega), putA (by simp; omega), w64 (by omega) (by omega), f61_1_l3, cf (by omega)]
  rfl

theorem bytP {β : Type} {x y : Int} {K : ByteArray → Option β} : f61_1 20000 [x, y] K = K (ofInts (b8 x ++ b8 y)) := by
  rw [f61_1]
  exact bytL (k := 19997) (K := fun x5 => K (ofInts x5))

def mpL (x y z u n : Int) : List Int := ((b8 x ++ b8 y) ++ (b8 z ++ b8 u)) ++ b8 n
def mpB (x y z u n : Int) : ByteArray := ofInts (mpL x y z u n)
theorem mpL_len (x y z u n : Int) : (mpL x y z u n).length = 40 := rfl
theorem oi_size (l : List Int) : (ofInts l).size = l.length := by rw [D_size, D_ofInts, List.length_map]
theorem mpB_size (x y z u n : Int) : (mpB x y z u n).size = 40 := by rw [mpB, oi_size, mpL_len]
theorem app_r {l r : List Int} (hl : ∀ x ∈ l, 0 ≤ x ∧ x < 256) (hr : ∀ x ∈ r, 0 ≤ x ∧ x < 256) : ∀ x ∈ l ++ r, 0 ≤ x ∧ x < 256 := fun x hx => by
  rcases List.mem_append.1 hx with hx | hx
  · exact hl x hx
  · exact hr x hx
theorem mpL_r (x y z u n : Int) : ∀ b ∈ mpL x y z u n, 0 ≤ b ∧ b < 256 := app_r (app_r (app_r (b8_r x) (b8_r y)) (app_r (b8_r z) (b8_r u))) (b8_r n)

theorem mapP {β : Type} {x y z u n : Int} {K : ByteArray → Option β} : f38_1 20000 [x, y] [z, u] n K = K (mpB x y z u n) := by
  have h1 : (ofInts (b8 x ++ b8 y)).size = 16 := by rw [oi_size]; rfl
  have h2 : (ofInts (b8 z ++ b8 u)).size = 16 := by rw [oi_size]; rfl
  have hl : (toInts (ofInts (b8 x ++ b8 y) ++ ofInts (b8 z ++ b8 u))).length = 32 := by rw [toInts_size, app_size]; omega
  rw [f38_1, bytP, bytP, ct (by omega), putA (by omega), tiA, toInts_ofInts (app_r (b8_r x) (b8_r y)), toInts_ofInts (app_r (b8_r z) (b8_r u))]
  rfl

theorem dsaveP {β : Type} {m k : Nat} {x y z u n a c : Int} {b : Bool} {l : List ByteArray} {w : WL} (h : DS m k a c l w) (hk : k < 299) {K : Int → Int → Bool → Int → List ByteArray → WL → Option β} :
    f13_1 20000 [x, y] [z, u] n a b c l w K = app K (svS 5 (mkB 5 (mpB x y z u n)) a b c l w) := by
  have hs := mpB_size x y z u n
  have hbig := big60
  have hm : mkR 5 (mpB x y z u n) = (mkB 5 (mpB x y z u n), 0) := by rw [mkR, if_neg (by omega), if_neg (by omega)]
  rw [f13_1, mapP, makeP (by omega), hm, bnf rfl, cond_false]
  exact svS_P h hk

/-! ### Reading -/

theorem nm_ok {w : Nat} {l : List Int} (h : w ≤ l.length) : nm w 0 l = (num 0 (l.take w), 0, l.drop w) := by rw [nm, if_neg (by simp), if_pos h]

theorem bytesR {β : Type} {l : List Int} {K : Int → List Int → List Int → Option β} (h : 16 ≤ l.length) (h1 : l.length ≤ 1000) : f54_1 20000 16 0 l K = K 0 (l.drop 16) (l.take 16) := by
  have e1 : ((((l.drop 0).take (((16 : Int) - 0).toNat)).length) * 1 ≤ 70368744177664) := by simp; omega
  have e2 : ((0 : Int) ≤ 16 ∧ (16 : Int) ≤ ((l.length : Nat) : Int) ∧ ((l.length : Nat) : Int) ≤ ((l.length : Nat) : Int)) := ⟨by omega, by omega, by omega⟩
  rw [f54_1, bnf rfl, cond_false, cf (by omega), cf (by omega), ct ⟨by omega, by omega, by omega⟩]
  simp only [ct e1, ct e2, amb_self]
  rw [List.take_of_length_le (l := l.drop (0 + (16 : Int).toNat)) (by simp; omega)]
  rfl

theorem num8P {β : Type} {l : List Int} {K : Int → Int → List Int → Option β} (h : 8 ≤ l.length) (hl : l.length ≤ 1000) (hb : ∀ x ∈ l, 0 ≤ x ∧ x < 256) : f55_1 20000 8 0 l K = K (num 0 (l.take 8)) 0 (l.drop 8) := by
  refine (numC (w := 8) (by omega) (by omega) (by omega) hb).trans ?_
  rw [nm_ok h]

theorem fromL {β : Type} {v l : List Int} {k : Nat} {K : List Int → Int → List Int → Option β} (h : l.length = 16) (hb : ∀ x ∈ l, 0 ≤ x ∧ x < 256) : f53_1_l6 20000 v K (k + 1 + 1 + 1) 0 [0, 0] 0 l = K [num 0 (l.take 8), num 0 ((l.drop 8).take 8)] 0 ((l.drop 8).drop 8) := by
  rw [f53_1_l6, ct (by omega), num8P (by omega) (by omega) hb, ct (by omega), ct (by decide), w64 (by omega) (by omega), f53_1_l6, ct (by omega), num8P (by simp; omega) (by simp; omega) (fun x hx => hb x (List.mem_of_mem_drop hx)), ct (by omega), ct (by simp), w64 (by omega) (by omega), f53_1_l6, cf (by omega)]
  rfl

theorem fromP {β : Type} {l : List Int} {K : List Int → Int → Option β} (h : l.length = 16) (hb : ∀ x ∈ l, 0 ≤ x ∧ x < 256) : f53_1 20000 (ofInts l) K = K [num 0 (l.take 8), num 0 ((l.drop 8).take 8)] 0 := by
  have hs : (ofInts l).size = 16 := by rw [oi_size, h]
  rw [f53_1, bnf (by omega), cond_false, f52_1, toInts_ofInts hb, ct (by omega), List.nil_append]
  exact fromL (k := 19997) (K := fun x10 x11 x12 => K x10 0) h hb

def rdM (L : List Int) : List Int × List Int × Int :=
  ([num 0 (L.take 8), num 0 ((L.drop 8).take 8)], [num 0 ((L.drop 16).take 8), num 0 ((L.drop 24).take 8)], num 0 ((L.drop 32).take 8))

theorem readM {β : Type} {b : ByteArray} {K : List Int → List Int → Int → Int → Option β} : f32_1 20000 b K = if b.size = 40 then K (rdM (toInts b)).1 (rdM (toInts b)).2.1 (rdM (toInts b)).2.2 0 else K [0, 0] [0, 0] 0 6 := by
  rw [f32_1]
  by_cases h : b.size = 40
  · have hl : (toInts b).length = 40 := by rw [toInts_size]; exact h
    generalize hL : toInts b = L at hl
    have hb : ∀ x ∈ L, 0 ≤ x ∧ x < 256 := by rw [← hL]; exact toInts_r b
    rw [bnf (by omega), cond_false, if_pos h, f52_1, ct (by omega), List.nil_append, bytesR (by omega) (by omega), fromP (by simp; omega) (fun x hx => hb x (List.mem_of_mem_take hx)), bnf rfl, cond_false, bytesR (by simp; omega) (by simp; omega), fromP (by simp; omega) (fun x hx => hb x (List.mem_of_mem_drop (List.mem_of_mem_take hx))), bnf rfl, cond_false]
    simp only [amb_self]
    rw [num8P (by simp; omega) (by simp; omega) (fun x hx => hb x (List.mem_of_mem_drop (List.mem_of_mem_drop hx))), rdM, List.take_take, List.take_take, List.drop_take, List.drop_take, List.take_take, List.take_take, List.drop_drop, List.drop_drop]
    rfl
  · rw [bnt (by omega), cond_true, if_neg h]

def noM : List Int × List Int × Int := ([0, 0], [0, 0], 0)
/-- The map of a disk, or why there is none. -/
def ldM (b : Bool) (l : List ByteArray) (w : WL) : (List Int × List Int × Int) × Int :=
  if (rd 5 b l w).2 ≠ 0 then (noM, (rd 5 b l w).2) else if (opn 5 (rd 5 b l w).1).2 ≠ 0 then (noM, (opn 5 (rd 5 b l w).1).2)
  else if (opn 5 (rd 5 b l w).1).1.size = 40 then (rdM (toInts (opn 5 (rd 5 b l w).1).1), 0) else (noM, 6)

theorem dloadP {β : Type} {m k : Nat} {a c : Int} {b : Bool} {l : List ByteArray} {w : WL} (h : DS m k a c l w) {K : List Int → List Int → Int → Int → Option β} :
    f11_1 20000 a b c l w K = K (ldM b l w).1.1 (ldM b l w).1.2.1 (ldM b l w).1.2.2 (ldM b l w).2 := by
  rw [f11_1, readP (by omega) h, ldM]
  by_cases h1 : (rd 5 b l w).2 = 0
  · rw [bnf h1, cond_false, if_neg (by simp [h1]), openP]
    by_cases h2 : (opn 5 (rd 5 b l w).1).2 = 0
    · rw [bnf h2, cond_false, if_neg (by simp [h2]), readM]
      by_cases h3 : (opn 5 (rd 5 b l w).1).1.size = 40
      · rw [if_pos h3, if_pos h3]
      · rw [if_neg h3, if_neg h3]; rfl
    · rw [bnt h2, cond_true, if_pos h2]; rfl
  · rw [bnt h1, cond_true, if_pos h1]; rfl

theorem take_num {n : Int} (r : List Int) (hn : U64 n) : num 0 ((b8 n ++ r).take 8) = n := by
  have e : (b8 n ++ r).take 8 = b8 n := List.take_left' rfl
  rw [e, num8 hn]
theorem drop_b8 (n : Int) (r : List Int) : (b8 n ++ r).drop 8 = r := List.drop_left' rfl

theorem rdM_mp {x y z u n : Int} (hx : U64 x) (hy : U64 y) (hz : U64 z) (hu : U64 u) (hn : U64 n) : rdM (mpL x y z u n) = ([x, y], [z, u], n) := by
  have e : mpL x y z u n = b8 x ++ (b8 y ++ (b8 z ++ (b8 u ++ (b8 n ++ [])))) := by simp [mpL]
  have d16 : ∀ r : List Int, r.drop 16 = (r.drop 8).drop 8 := fun r => by rw [List.drop_drop]
  have d24 : ∀ r : List Int, r.drop 24 = ((r.drop 8).drop 8).drop 8 := fun r => by rw [List.drop_drop, List.drop_drop]
  have d32 : ∀ r : List Int, r.drop 32 = (((r.drop 8).drop 8).drop 8).drop 8 := fun r => by rw [List.drop_drop, List.drop_drop, List.drop_drop]
  rw [rdM, e, d16, d24, d32, drop_b8, drop_b8, drop_b8, drop_b8, take_num _ hx, take_num _ hy, take_num _ hz, take_num _ hu, take_num _ hn]

/-- What Load tells of a map that was saved. -/
theorem ldM_at {x y z u n : Int} {l : List ByteArray} {w : WL} (hl : 5 < l.length) (hr : last 5 (l.getD 5 ByteArray.empty) w = mkB 5 (mpB x y z u n)) (hx : U64 x) (hy : U64 y) (hz : U64 z) (hu : U64 u) (hn : U64 n) : ldM false l w = (([x, y], [z, u], n), 0) := by
  have h5 : (0 : Int) ≤ 5 ∧ (5 : Int) < (l.length : Int) := by omega
  have e1 : rd 5 false l w = (mkB 5 (mpB x y z u n), 0) := by
    rw [rd, if_neg (by simp), if_pos h5, kp, if_pos h5]
    show (last 5 (l.getD 5 ByteArray.empty) w, (0 : Int)) = _
    rw [hr]
  have hs := mpB_size x y z u n
  have e2 : opn 5 (mkB 5 (mpB x y z u n)) = (mpB x y z u n, 0) := mkB_open (by omega) (by omega) (by omega)
  rw [ldM, e1]
  show (if (0 : Int) ≠ 0 then _ else if (opn 5 (mkB 5 (mpB x y z u n))).2 ≠ 0 then _ else if (opn 5 (mkB 5 (mpB x y z u n))).1.size = 40 then (rdM (toInts (opn 5 (mkB 5 (mpB x y z u n))).1), (0 : Int)) else _) = _
  rw [e2, if_neg (by simp), if_neg (by simp), if_pos hs]
  show (rdM (toInts (mpB x y z u n)), (0 : Int)) = _
  rw [mpB, toInts_ofInts (mpL_r x y z u n), rdM_mp hx hy hz hu hn]

theorem bytR {β : Type} {x y : Int} {K : ByteArray → Option β} : f41_1 20000 [x, y] K = K (ofInts (b8 x ++ b8 y)) := by
  have h1 := b8_size x
  have h2 := b8_size y
  rw [f41_1, ct (by simp), ct (by simp), text8, text8]
  show cond (decide ((ofInts (b8 x)).size + (ofInts (b8 y)).size ≤ 4611686018427387904)) (K (ofInts (b8 x) ++ ofInts (b8 y))) none = _
  rw [ct (by omega), oiA]

theorem dsaveR {β : Type} {m k : Nat} {x y z u n a c : Int} {b : Bool} {l : List ByteArray} {w : WL} (h : DS m k a c l w) (hk : k < 299) {K : Int → Int → Bool → Int → List ByteArray → WL → Option β} :
    f15_1 20000 [x, y] [z, u] n a b c l w K = app K (svS 5 (mkB 5 (mpB x y z u n)) a b c l w) := by
  have hs := mpB_size x y z u n
  have hbig := big60
  have h1 : (ofInts (b8 x ++ b8 y)).size = 16 := by rw [oi_size]; rfl
  have h2 : (ofInts (b8 z ++ b8 u)).size = 16 := by rw [oi_size]; rfl
  have h3 := b8_size n
  have hm : mkR 5 (mpB x y z u n) = (mkB 5 (mpB x y z u n), 0) := by rw [mkR, if_neg (by omega), if_neg (by omega)]
  have he : ofInts (b8 x ++ b8 y) ++ ofInts (b8 z ++ b8 u) ++ ofInts (b8 n) = mpB x y z u n := by simp only [mpB, mpL, oiA]
  rw [f15_1, bytR, bytR, ct (by omega), text8, ct (by rw [app_size]; omega), he, makeR (by omega), hm]
  exact svS_R h hk

theorem toInts_ext (s : ByteArray) (i j : Nat) : toInts (s.extract i j) = ((toInts s).drop i).take (j - i) := by
  rw [toInts_D, D_ext, toInts_D, List.map_take, List.map_drop]

theorem get8 {β : Type} {i : Nat} {l : List Int} {K : Int → Int → Option β} (h : i + 8 ≤ l.length) (hl : l.length ≤ 1000) (hb : ∀ x ∈ l, 0 ≤ x ∧ x < 256) : f36_1 20000 (i : Int) 8 l K = K (num 0 ((l.drop i).take 8)) 0 := by
  refine (getR (at_ := i) (w := 8) (by omega) (by omega) (by omega) (by omega) hb).trans ?_
  rw [gt, if_pos h]

theorem fromR {β : Type} {b : ByteArray} {K : List Int → Int → Option β} (h : b.size = 16) : f35_1 20000 b K = K [num 0 ((toInts b).take 8), num 0 (((toInts b).drop 8).take 8)] 0 := by
  have hl : (toInts b).length = 16 := by rw [toInts_size]; exact h
  rw [f35_1, bnf (by omega), cond_false]
  refine (get8 (i := 0) (by omega) (by omega) (toInts_r b)).trans ?_
  refine (get8 (i := 8) (by omega) (by omega) (toInts_r b)).trans ?_
  rw [List.drop_zero]

theorem dloadR {β : Type} {m k : Nat} {a c : Int} {b : Bool} {l : List ByteArray} {w : WL} (h : DS m k a c l w) {K : List Int → List Int → Int → Int → Option β} :
    f12_1 20000 a b c l w K = K (ldM b l w).1.1 (ldM b l w).1.2.1 (ldM b l w).1.2.2 (ldM b l w).2 := by
  rw [f12_1, readR (by omega) h, ldM]
  by_cases h1 : (rd 5 b l w).2 = 0
  · rw [bnf h1, cond_false, if_neg (by simp [h1]), openR]
    by_cases h2 : (opn 5 (rd 5 b l w).1).2 = 0
    · rw [bnf h2, cond_false, if_neg (by simp [h2])]
      generalize (opn 5 (rd 5 b l w).1).1 = s
      by_cases h3 : s.size = 40
      · have hl : (toInts s).length = 40 := by rw [toInts_size]; exact h3
        have e1 : (s.extract 0 16).size = 16 := by rw [D_size, D_ext, List.drop_zero, List.length_take, ← D_size]; omega
        have e2 : (s.extract 16 32).size = 16 := by rw [D_size, D_ext, List.length_take, List.length_drop, ← D_size]; omega
        rw [bnf (by omega), cond_false, if_pos h3, ct ⟨by omega, by omega, by omega⟩, fromR e1, ct ⟨by omega, by omega, by omega⟩, fromR e2, toInts_ext, toInts_ext]
        refine (get8 (i := 32) (by omega) (by omega) (toInts_r s)).trans ?_
        rw [rdM, List.drop_zero, List.take_take, List.take_take, List.drop_take, List.drop_take, List.take_take, List.take_take, List.drop_drop]
        rfl
      · rw [bnt (by omega), cond_true, if_neg h3]; rfl
    · rw [bnt h2, cond_true, if_pos h2]; rfl
  · rw [bnt h1, cond_true, if_pos h1]; rfl

theorem foldl_last {l : List ByteArray} {r : ByteArray} (hl : 5 < l.length) : ∀ w : WL, ((w ++ [((5 : Int), r)]).foldl put1 l).getD 5 ByteArray.empty = r := by
  intro w
  rw [List.foldl_append, List.foldl_cons, List.foldl_nil, put1]
  have := puts_len w l
  show ((w.foldl put1 l).set 5 r).getD 5 ByteArray.empty = r
  rw [List.getD_eq_getElem?_getD, List.getElem?_set_self (by omega)]; rfl

/-- Behind a save that went well Load tells what was saved. -/
theorem ld_saved {m k : Nat} {x y z u n a c : Int} {b : Bool} {l : List ByteArray} {w : WL} (h : DS m k a c l w) (hx : U64 x) (hy : U64 y) (hz : U64 z) (hu : U64 u) (hn : U64 n)
    (h1 : (svS 5 (mkB 5 (mpB x y z u n)) a b c l w).1 = 0) :
    ldM (svS 5 (mkB 5 (mpB x y z u n)) a b c l w).2.2.1 (svS 5 (mkB 5 (mpB x y z u n)) a b c l w).2.2.2.2.1 (svS 5 (mkB 5 (mpB x y z u n)) a b c l w).2.2.2.2.2 = (([x, y], [z, u], n), 0) := by
  have hs : (mkB 5 (mpB x y z u n)).size = 64 := mkB_size (by rw [mpB_size]; omega)
  by_cases q : (wS 5 (mkB 5 (mpB x y z u n)) a b c l w).1 = 0
  · have e : svS 5 (mkB 5 (mpB x y z u n)) a b c l w = fS (wS 5 (mkB 5 (mpB x y z u n)) a b c l w).2.1 (wS 5 (mkB 5 (mpB x y z u n)) a b c l w).2.2.1 (wS 5 (mkB 5 (mpB x y z u n)) a b c l w).2.2.2.1 l (wS 5 (mkB 5 (mpB x y z u n)) a b c l w).2.2.2.2 := by
      rw [svS, if_neg (fun hh => hh q)]
    rw [e] at h1 ⊢
    cases b with
    | true => rw [wS, if_pos rfl] at q; cases q
    | false =>
      by_cases hr : 0 ≤ (5 : Int) ∧ (5 : Int) < (l.length : Int)
      · by_cases ha : a = 0
        · rw [wS, if_neg (by simp), if_neg (fun hh => hh hr), if_neg (by simp [hs]), if_pos ha] at q; cases q
        · have hw : wS 5 (mkB 5 (mpB x y z u n)) a false c l w = (0, dec a, false, c + 1, w ++ [(5, mkB 5 (mpB x y z u n))]) := by
            rw [wS, if_neg (by simp), if_neg (fun hh => hh hr), if_neg (by simp [hs]), if_neg ha]
          rw [hw] at h1 ⊢
          simp only at h1 ⊢
          by_cases hd : dec a = 0
          · rw [fS, if_neg (by simp), if_pos hd] at h1; cases h1
          · rw [fS, if_neg (by simp), if_neg hd]
            refine ldM_at (by rw [puts_len]; omega) ?_ hx hy hz hu hn
            show ((w ++ [((5 : Int), mkB 5 (mpB x y z u n))]).foldl put1 l).getD 5 ByteArray.empty = _
            exact foldl_last (by omega) w
      · rw [wS, if_neg (by simp), if_pos hr] at q; cases q
  · rw [svS, if_pos q] at h1
    exact (q h1).elim

end Go.Proofs.YtillbabmlfjegaaGreatDoor.X
end

section
/- The law: the map of a disk. -/
namespace Go.Proofs.YtillbabmlfjegaaGreatDoor.X
open Go Go.Proofs.YtillbabmlfjegaaGreatDoor.Ev
set_option linter.unusedSectionVars false
variable [FZ]
set_option linter.unusedVariables false
set_option linter.unusedSimpArgs false

theorem known11 {β : Type} {K : Bool → Option β} : f4_1 20000 K = K true := by kernel_rfl

theorem newP {β : Type} {n : Int} (h1 : 1 ≤ n) (h2 : n ≤ 10) {K0 : Option β} {K1 : List ByteArray → WL → Option β} : f5_1 20000 n K0 K1 = K1 (List.replicate n.toNat Z64) [] := by
  rcases (show n = 1 ∨ n = 2 ∨ n = 3 ∨ n = 4 ∨ n = 5 ∨ n = 6 ∨ n = 7 ∨ n = 8 ∨ n = 9 ∨ n = 10 by omega) with rfl | rfl | rfl | rfl | rfl | rfl | rfl | rfl | rfl | rfl <;> kernel_rfl

theorem newR {β : Type} {n : Int} (h1 : 1 ≤ n) (h2 : n ≤ 10) {K0 : Option β} {K1 : List ByteArray → WL → Option β} : f6_1 20000 n K0 K1 = K1 (List.replicate n.toNat Z64) [] := by
  rcases (show n = 1 ∨ n = 2 ∨ n = 3 ∨ n = 4 ∨ n = 5 ∨ n = 6 ∨ n = 7 ∨ n = 8 ∨ n = 9 ∨ n = 10 by omega) with rfl | rfl | rfl | rfl | rfl | rfl | rfl | rfl | rfl | rfl <;> kernel_rfl

theorem twoI {l : List Int} (h : l.length = 2) (hw : ∀ x ∈ l, wfE (.int .u64) x) : ∃ x y : Int, l = [x, y] ∧ U64 x ∧ U64 y := by
  match l, h with
  | [x, y], _ => exact ⟨x, y, rfl, u64_of_wf (hw x (by simp)), u64_of_wf (hw y (by simp))⟩

theorem law_true {β : Type} (n : Int) (s : ByteArray) (a1 a2 : List Int) (a3 : Int) (down : Bool) {q1 q2 : Prop} (_ : q1) (_ : q2) (h1 : a1.length = 2 ∧ ∀ x ∈ a1, wfE (.int .u64) x) (h2 : a2.length = 2 ∧ ∀ x ∈ a2, wfE (.int .u64) x) (h3 : (Lit.int .u64 a3).wf = true) (r : β) :
    ∃ F, f3_1 F n s a1 a2 a3 down (fun b => cond b (some r) none) = some r := by
  refine ⟨20000, ?_⟩
  obtain ⟨x, y, rfl, hx, hy⟩ := twoI h1.1 h1.2
  obtain ⟨u, v, rfl, hu, hv⟩ := twoI h2.1 h2.2
  have hn := u64_of_wf h3
  rw [f3_1]
  simp only [known11]
  by_cases q1 : n < 1
  · rw [ct q1]; rfl
  by_cases q2 : n > 10
  · rw [cf q1, ct q2]; rfl
  rw [cf q1, cf q2, newP (by omega) (by omega)]
  simp only [newR (show 1 ≤ n by omega) (show n ≤ 10 by omega)]
  have hd0 : DS n.toNat 0 (-1) 0 (List.replicate n.toNat Z64) [] := ⟨by omega, by omega, by simp, by simp, fun p hp => (by cases hp), by omega, by omega⟩
  generalize List.replicate n.toNat Z64 = l at hd0
  have hbs : ∀ z : Int, (z == z) = true := fun z => by simp
  have hd1 := wS_ok (x := 5) (t := s) (b := false) hd0 (by omega)
  rw [writeP hd0]
  simp only [writeR hd0]
  generalize wS 5 s (-1) false 0 l [] = S at hd1
  obtain ⟨S0, A, B, C, W⟩ := S
  simp only at hd1 ⊢
  have fin : ∀ {k : Nat} {a c : Int} {b : Bool} {l : List ByteArray} {w : WL}, DS n.toNat k a c l w → k < 200 →
      (cond ((svS 5 (mkB 5 (mpB x y u v a3)) a b c l w).1 != 0) (some r) (cond ((lbeq (.int .u64) (ldM (svS 5 (mkB 5 (mpB x y u v a3)) a b c l w).2.2.1 (svS 5 (mkB 5 (mpB x y u v a3)) a b c l w).2.2.2.2.1 (svS 5 (mkB 5 (mpB x y u v a3)) a b c l w).2.2.2.2.2).1.1 [x, y]) && ((lbeq (.int .u64) (ldM (svS 5 (mkB 5 (mpB x y u v a3)) a b c l w).2.2.1 (svS 5 (mkB 5 (mpB x y u v a3)) a b c l w).2.2.2.2.1 (svS 5 (mkB 5 (mpB x y u v a3)) a b c l w).2.2.2.2.2).1.2.1 [u, v]) && ((ldM (svS 5 (mkB 5 (mpB x y u v a3)) a b c l w).2.2.1 (svS 5 (mkB 5 (mpB x y u v a3)) a b c l w).2.2.2.2.1 (svS 5 (mkB 5 (mpB x y u v a3)) a b c l w).2.2.2.2.2).1.2.2 == a3))) (some r) (cond false (some r) none))) = some r := by
    intro k a c b l w h hk
    by_cases q : (svS 5 (mkB 5 (mpB x y u v a3)) a b c l w).1 = 0
    · rw [ld_saved h hx hy hu hv hn q, bnf q, cond_false, lbeq_int, lbeq_int, beq_self_eq_true]
      rfl
    · rw [bnt q, cond_true]
  cases down with
  | true =>
    rw [cond_true, crashP (by omega) hd1]
    simp only [crashR (F := 20000) (by omega) hd1]
    have hd2 := hd1.crashed (by omega) [true]
    generalize crB [true] 0 W l = l2 at hd2
    have hd3 := svS_ok (x := 5) (t := mkB 5 (mpB x y u v a3)) (b := true) hd2 (by omega)
    have hf := fin (b := true) hd2 (by omega)
    have e1 := fun K => dsaveP (β := β) (K := K) (x := x) (y := y) (z := u) (u := v) (n := a3) (b := true) hd2 (show 0 + 1 + 1 < 299 by omega)
    have e2 := fun K => dsaveR (β := β) (K := K) (x := x) (y := y) (z := u) (u := v) (n := a3) (b := true) hd2 (show 0 + 1 + 1 < 299 by omega)
    rw [dloadP hd2, dloadR hd2, f14_1, e1, app, e2, app, dloadP hd3, dloadR hd3, hbs, cond_true, f16_1, lbeq_int, lbeq_int, hbs, Bool.and_self, Bool.and_self, cond_true, hbs, cond_true, hbs, cond_true, f16_1, lbeq_int, lbeq_int, hbs, Bool.and_self, Bool.and_self, cond_true, hbs, cond_true]
    exact hf
  | false =>
    have hd3 := svS_ok (x := 5) (t := mkB 5 (mpB x y u v a3)) (b := B) hd1 (by omega)
    have hf := fin (b := B) hd1 (by omega)
    have e1 := fun K => dsaveP (β := β) (K := K) (x := x) (y := y) (z := u) (u := v) (n := a3) (b := B) hd1 (show 0 + 1 < 299 by omega)
    have e2 := fun K => dsaveR (β := β) (K := K) (x := x) (y := y) (z := u) (u := v) (n := a3) (b := B) hd1 (show 0 + 1 < 299 by omega)
    rw [cond_false, dloadP hd1, dloadR hd1, f14_1, e1, app, e2, app, dloadP hd3, dloadR hd3, hbs, cond_true, f16_1, lbeq_int, lbeq_int, hbs, Bool.and_self, Bool.and_self, cond_true, hbs, cond_true, hbs, cond_true, f16_1, lbeq_int, lbeq_int, hbs, Bool.and_self, Bool.and_self, cond_true, hbs, cond_true]
    exact hf

end Go.Proofs.YtillbabmlfjegaaGreatDoor.X
end
