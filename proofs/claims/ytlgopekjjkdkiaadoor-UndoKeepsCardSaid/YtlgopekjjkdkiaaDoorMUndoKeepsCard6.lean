/- Merged: PureW, DiskN, DiskM, RecA, RecB, RecC, NumA, NumC, NumD, GeoA, EvF28, GeoQ, EvF30, EvF33, EvF34, EvF9, EvF35, EvF13, CowA, CowB, CowC, GeoB, GeoC, GeoD, UndoA, UndoB. -/
import Derived.Test.YtlgopekjjkdkiaaDoorMUndoKeepsCard3
import Derived.Test.YtlgopekjjkdkiaaDoorMUndoKeepsCard4
import Derived.KernelRfl
import Derived.Test.YtlgopekjjkdkiaaDoorMUndoKeepsCard5
import Derived.Test.YtlgopekjjkdkiaaDoorProg
section
/- Numbers of a fixed width: what wrapping and the bits' operations come to where nothing is lost. -/
namespace Go.Proofs.YtlgopekjjkdkiaaDoor.X
open Go Go.Proofs.YtlgopekjjkdkiaaDoor.Ev
set_option linter.unusedSectionVars false
variable [FZ]
set_option linter.unusedVariables false
set_option linter.unusedSimpArgs false

theorem w64 {x : Int} (h : -9223372036854775808 ≤ x) (h' : x ≤ 9223372036854775807) : IntKind.i64.wrap x = x := by
  simp only [IntKind.wrap, IntKind.bits, IntKind.signed, Bool.true_and]
  split <;> (rename_i hq; simp at hq; omega)

theorem wu64 {x : Int} (h : 0 ≤ x) (h' : x < 18446744073709551616) : IntKind.u64.wrap x = x := by
  simp only [IntKind.wrap, IntKind.bits, IntKind.signed, Bool.false_and]
  simp; omega

theorem wu32 {x : Int} (h : 0 ≤ x) (h' : x < 4294967296) : IntKind.u32.wrap x = x := by
  simp only [IntKind.wrap, IntKind.bits, IntKind.signed, Bool.false_and]
  simp; omega

theorem wu8 {x : Int} (h : 0 ≤ x) (h' : x < 256) : IntKind.u8.wrap x = x := by
  simp only [IntKind.wrap, IntKind.bits, IntKind.signed, Bool.false_and]
  simp; omega

theorem wu64m (x : Int) : IntKind.u64.wrap x = x % 18446744073709551616 := by
  simp only [IntKind.wrap, IntKind.bits, IntKind.signed, Bool.false_and]
  simp
theorem wu32m (x : Int) : IntKind.u32.wrap x = x % 4294967296 := by
  simp only [IntKind.wrap, IntKind.bits, IntKind.signed, Bool.false_and]
  simp
theorem wu8m (x : Int) : IntKind.u8.wrap x = x % 256 := by
  simp only [IntKind.wrap, IntKind.bits, IntKind.signed, Bool.false_and]
  simp

theorem i64_of_wf {n : Int} (h : (Lit.int .i64 n).wf = true) : -9223372036854775808 ≤ n ∧ n ≤ 9223372036854775807 := by
  simp [Lit.wf, IntKind.min, IntKind.max, IntKind.bits, IntKind.signed] at h; omega
theorem u64_of_wf {n : Int} (h : (Lit.int .u64 n).wf = true) : 0 ≤ n ∧ n < 18446744073709551616 := by
  simp [Lit.wf, IntKind.min, IntKind.max, IntKind.bits, IntKind.signed] at h; omega
theorem u8_of_wf {n : Int} (h : (Lit.int .u8 n).wf = true) : 0 ≤ n ∧ n < 256 := by
  simp [Lit.wf, IntKind.min, IntKind.max, IntKind.bits, IntKind.signed] at h; omega
theorem u32_of_wf {n : Int} (h : (Lit.int .u32 n).wf = true) : 0 ≤ n ∧ n < 4294967296 := by
  simp [Lit.wf, IntKind.min, IntKind.max, IntKind.bits, IntKind.signed] at h; omega

theorem or64 {A B : Nat} (hA : A < 2 ^ 64) (hB : B < 2 ^ 64) : ior .u64 (A : Int) (B : Int) = ((A ||| B : Nat) : Int) := by
  have h : (BitVec.ofInt 64 (A : Int) ||| BitVec.ofInt 64 (B : Int)).toNat = A ||| B := by
    simp [BitVec.toNat_or, BitVec.ofInt_natCast, BitVec.toNat_ofNat, Nat.mod_eq_of_lt hA, Nat.mod_eq_of_lt hB]
  have hl := Nat.or_lt_two_pow hA hB
  show IntKind.u64.wrap ((BitVec.ofInt 64 (A : Int) ||| BitVec.ofInt 64 (B : Int)).toNat : Int) = _
  rw [h, wu64 (by omega) (by omega)]
theorem and64 {A B : Nat} (hA : A < 2 ^ 64) (hB : B < 2 ^ 64) : iand .u64 (A : Int) (B : Int) = ((A &&& B : Nat) : Int) := by
  have h : (BitVec.ofInt 64 (A : Int) &&& BitVec.ofInt 64 (B : Int)).toNat = A &&& B := by
    simp [BitVec.toNat_and, BitVec.ofInt_natCast, BitVec.toNat_ofNat, Nat.mod_eq_of_lt hA, Nat.mod_eq_of_lt hB]
  have hl : A &&& B < 2 ^ 64 := Nat.and_lt_two_pow A hB
  show IntKind.u64.wrap ((BitVec.ofInt 64 (A : Int) &&& BitVec.ofInt 64 (B : Int)).toNat : Int) = _
  rw [h, wu64 (by omega) (by omega)]
theorem shl64 {i : Nat} (hi : i < 64) : ishl .u64 1 (i : Int) = ((2 ^ i : Nat) : Int) := by
  have h2 : (2 : Nat) ^ i < 2 ^ 64 := Nat.pow_lt_pow_right (by omega) hi
  have : (1 : Int) * 2 ^ (min i 64) = ((2 ^ i : Nat) : Int) := by
    rw [Nat.min_eq_left (by omega), Int.one_mul]; push_cast; rfl
  simp only [ishl, IntKind.bits, Int.toNat_natCast]
  rw [this, wu64 (Int.natCast_nonneg _) (Int.ofNat_lt.2 h2)]
theorem shr64 {A i : Nat} (hi : i < 64) : ishr .u64 (A : Int) (i : Int) = ((A >>> i : Nat) : Int) := by
  have : ((2 : Int) ^ i) = ((2 ^ i : Nat) : Int) := by push_cast; rfl
  simp only [ishr, IntKind.bits, Int.toNat_natCast]
  rw [Nat.min_eq_left (by omega), Int.fdiv_eq_ediv_of_nonneg _ (by rw [this]; exact Int.natCast_nonneg _), this, Nat.shiftRight_eq_div_pow]
  push_cast; rfl

/-- The number with given bits, below n. -/
def mk (f : Nat → Bool) : Nat → Nat
  | 0 => 0
  | n + 1 => if f n then mk f n ||| 2 ^ n else mk f n

theorem mk_lt (f : Nat → Bool) : ∀ n, mk f n < 2 ^ n
  | 0 => by simp [mk]
  | n + 1 => by
    have := mk_lt f n
    have h2 : (2 : Nat) ^ n < 2 ^ (n + 1) := Nat.pow_lt_pow_right (by omega) (by omega)
    simp only [mk]
    split
    · exact Nat.or_lt_two_pow (by omega) h2
    · omega

theorem mk_bit (f : Nat → Bool) : ∀ n j, (mk f n).testBit j = (decide (j < n) && f j)
  | 0, j => by simp [mk]
  | n + 1, j => by
    simp only [mk]
    split
    · rename_i h
      rw [Nat.testBit_or, mk_bit f n, Nat.testBit_two_pow]
      by_cases hj : j = n
      · subst hj; simp [h]
      · have h1 : decide (j < n) = decide (j < n + 1) := decide_eq_decide.2 (by omega)
        simp [Ne.symm hj, h1]
    · rename_i h
      rw [mk_bit f n]
      by_cases hj : j = n
      · subst hj; simp at h; simp [h]
      · have h1 : decide (j < n) = decide (j < n + 1) := decide_eq_decide.2 (by omega)
        rw [h1]

theorem mk_eq {A n : Nat} {f : Nat → Bool} (hA : A < 2 ^ n) (h : ∀ j, j < n → f j = A.testBit j) : mk f n = A := by
  apply Nat.eq_of_testBit_eq
  intro j
  rw [mk_bit]
  by_cases hj : j < n
  · simp [hj, h j hj]
  · simp [hj]
    exact Nat.testBit_lt_two_pow (Nat.lt_of_lt_of_le hA (Nat.pow_le_pow_right (by omega) (by omega)))

theorem bit_test {A i : Nat} : ((A >>> i &&& 1 : Nat) == 1) = A.testBit i := by
  simp [Nat.testBit, Nat.and_comm]

theorem natbeq {a b : Nat} : (((a : Int) == ((b : Nat) : Int)) : Bool) = (a == b) := by
  rw [Bool.eq_iff_iff]; simp; omega

theorem tdiv_nn {a b : Nat} : ((a : Int).tdiv (b : Int)) = ((a / b : Nat) : Int) := by
  rw [Int.tdiv_eq_ediv_of_nonneg (by omega)]; rfl
theorem tmod_nn {a b : Nat} : ((a : Int).tmod (b : Int)) = ((a % b : Nat) : Int) := by
  rw [Int.tmod_eq_emod_of_nonneg (by omega)]; rfl

theorem lbeq_refl (k : EK) (hr : ∀ x : k.den, k.beq x x = true) : ∀ l : List k.den, lbeq k l l = true
  | [] => rfl
  | x :: r => by simp [lbeq, hr x, lbeq_refl k hr r]
theorem lbeq_int (k : IntKind) (l : List Int) : lbeq (.int k) l l = true := lbeq_refl (.int k) (fun x => by simp [EK.beq]) l
theorem lbeq_int_iff (k : IntKind) : ∀ (l r : List Int), lbeq (.int k) l r = true ↔ l = r
  | [], [] => by simp [lbeq]
  | [], _ :: _ => by simp [lbeq]
  | _ :: _, [] => by simp [lbeq]
  | x :: l, y :: r => by simp [lbeq, EK.beq, lbeq_int_iff k l r]

theorem ct {α : Sort _} {p : Prop} [Decidable p] {a b : α} (h : p) : cond (decide p) a b = a := by simp [h]
theorem cf {α : Sort _} {p : Prop} [Decidable p] {a b : α} (h : ¬ p) : cond (decide p) a b = b := by simp [h]

end Go.Proofs.YtlgopekjjkdkiaaDoor.X
end

section
/- A disk: what each act of the program's and of the document's comes to, in one form (each function has one way out: gen.py moves the lists). -/
namespace Go.Proofs.YtlgopekjjkdkiaaDoor.X
open Go Go.Proofs.YtlgopekjjkdkiaaDoor.Ev
set_option linter.unusedSectionVars false
variable [FZ]
set_option linter.unusedVariables false
set_option linter.unusedSimpArgs false

abbrev WL := List (Int × ByteArray)

/-- What is so of a disk of n sectors, behind at most k acts. -/
structure DS (n k : Nat) (a c : Int) (l : List ByteArray) (w : WL) : Prop where
  n40 : n ≤ 2000
  k300 : k ≤ 300
  len : l.length = n
  wl : w.length ≤ k
  wb : ∀ p ∈ w, 0 ≤ p.1 ∧ p.1 < n
  ar : -1 ≤ a ∧ a ≤ 9223372036854775807
  cr : 0 ≤ c ∧ c ≤ k

theorem getD_of_drop {α : Type} {l r : List α} {i : Nat} {x d : α} (h : l.drop i = x :: r) : i < l.length ∧ l.getD (0 + (i : Int).toNat) d = x ∧ l.drop (i + 1) = r := by
  have h1 : i < l.length := by
    rcases Nat.lt_or_ge i l.length with h1 | h1
    · exact h1
    · rw [List.drop_eq_nil_of_le h1] at h; cases h
  rw [List.drop_eq_getElem_cons h1] at h
  injection h with h2 h3
  refine ⟨h1, ?_, h3⟩
  simp [h1, h2]

theorem getD_out {α : Type} {l : List α} {i : Nat} {d : α} (h : l.length ≤ i) : l.getD i d = d := by simp [List.getD_eq_getElem?_getD, List.getElem?_eq_none h]

theorem len_of_drop_nil {α : Type} {l : List α} {i : Nat} (h : l.drop i = []) (hi : i ≤ l.length) : i = l.length := by
  have := congrArg List.length h
  simp at this; omega

/-! ### A sector as it is flushed; as it was written last -/

def kp (x : Int) (l : List ByteArray) : ByteArray × Int := if 0 ≤ x ∧ x < (l.length : Int) then (l.getD x.toNat ByteArray.empty, 0) else (ByteArray.empty, 3)

theorem keptP {β : Type} {F : Nat} {x a c : Int} {b : Bool} {l : List ByteArray} {w : WL} {K : ByteArray → Int → Option β} : f47_1 F x a b c l w K = K (kp x l).1 (kp x l).2 := by
  rw [f47_1, f64_1, kp]
  by_cases h1 : 0 ≤ x
  · rw [ct (by omega)]
    by_cases h2 : x < (l.length : Int)
    · rw [if_pos ⟨h1, h2⟩, decide_eq_true h2, Bool.not_true, cond_false, ct ⟨h1, h2⟩, ct (by omega), Nat.zero_add]
    · rw [if_neg (by omega), decide_eq_false h2, Bool.not_false, cond_true]
  · rw [cf (by omega), if_neg (by omega), Bool.not_false, cond_true]

/-- What was written last to a sector, in place of s. -/
def last (x : Int) (s : ByteArray) (w : WL) : ByteArray := w.foldl (fun s p => if p.1 = x then p.2 else s) s

def rd (x : Int) (b : Bool) (l : List ByteArray) (w : WL) : ByteArray × Int :=
  if b then (ByteArray.empty, 5) else (if 0 ≤ x ∧ x < (l.length : Int) then last x (l.getD x.toNat ByteArray.empty) w else ByteArray.empty, (kp x l).2)

/-- The last write to a sector. -/
def lastW (x : Int) : WL → Option ByteArray
  | [] => none
  | p :: r => match lastW x r with
    | some s => some s
    | none => if p.1 = x then some p.2 else none

theorem last_eq (x : Int) : ∀ (w : WL) (s : ByteArray), last x s w = (match lastW x w with | some t => t | none => s)
  | [], s => rfl
  | p :: r, s => by
    rw [last, List.foldl_cons, ← last, last_eq x r, lastW]
    cases lastW x r with
    | some t => rfl
    | none =>
      by_cases hp : p.1 = x
      · simp [hp]
      · simp [hp]

theorem lastW_app (x : Int) (p : Int × ByteArray) : ∀ w : WL, lastW x (w ++ [p]) = if p.1 = x then some p.2 else lastW x w
  | [] => by simp [lastW]
  | q :: r => by
    rw [List.cons_append, lastW, lastW_app x p r, lastW]
    by_cases hp : p.1 = x
    · simp [hp]
    · simp [hp]

theorem readPl {β : Type} {F : Nat} {x a c z : Int} {b : Bool} {l : List ByteArray} {w : WL} {s : ByteArray} {K0 : ByteArray → Int → ByteArray → Option β} {K1 : Option β} (hw : w.length ≤ 300) : ∀ (i k : Nat), i ≤ w.length → i < k →
    f29_1_r2000006_l1 F a b c l w x s z K0 K1 k ((i : Int) - 1) = (match lastW x (w.take i) with | some t => K0 t x t | none => K1)
  | _, 0, _, h => by omega
  | 0, k + 1, _, _ => by
    rw [f29_1_r2000006_l1, cf (by omega)]; rfl
  | i + 1, k + 1, hi, hk => by
    have h1 : i < w.length := by omega
    have e1 : (((i + 1 : Nat) : Int) - 1) = (i : Int) := by omega
    rw [e1, f29_1_r2000006_l1, ct (by omega), ct (by omega), ct (by omega), w64 (by omega) (by omega), readPl hw i k (by omega) (by omega)]
    have hg : w.getD (0 + (i : Int).toNat) ((0, ByteArray.empty) : Int × ByteArray) = w[i] := by simp [h1]
    rw [hg, List.take_succ_eq_append_getElem h1, lastW_app]
    by_cases hp : w[i].1 = x
    · rw [if_pos hp, show (w[i].1 == x) = true from by simp [hp], cond_true, hp]
    · rw [if_neg hp, show (w[i].1 == x) = false from by simp [hp], cond_false]

theorem lastW_none {x : Int} : ∀ {w : WL}, (∀ p ∈ w, p.1 ≠ x) → lastW x w = none
  | [], _ => rfl
  | p :: r, h => by rw [lastW, lastW_none (fun q hq => h q (by simp [hq]))]; simp [h p (by simp)]

theorem readP {β : Type} {F n k : Nat} (hF : 400 ≤ F) {x a c : Int} {b : Bool} {l : List ByteArray} {w : WL} (h : DS n k a c l w) {K : ByteArray → Int → Option β} : f29_1 F x a b c l w K = K (rd x b l w).1 (rd x b l w).2 := by
  have hk := h.k300; have hwl := h.wl
  rw [f29_1]
  cases b with
  | true => rfl
  | false =>
    rw [cond_false, f46_1, f29_1_r2000006, w64 (by omega) (by omega), readPl (by omega) w.length F (Nat.le_refl _) (by omega), List.take_length, rd, if_neg (by simp)]
    by_cases hx : 0 ≤ x ∧ x < (l.length : Int)
    · rw [if_pos hx, last_eq]
      cases hq : lastW x w with
      | none => simp only [keptP]; rw [kp, if_pos hx]
      | some t => simp only [kp, if_pos hx]
    · rw [if_neg hx, lastW_none (fun p hp he => hx (by have := h.wb p hp; have := h.len; omega))]
      simp only [keptP]; rw [kp, if_neg hx]

/-! ### A write -/

def dec (a : Int) : Int := if a = -1 then a else a - 1

def wS (x : Int) (t : ByteArray) (a : Int) (b : Bool) (c : Int) (l : List ByteArray) (w : WL) : Int × Int × Bool × Int × WL :=
  if b then (5, a, b, c, w) else if ¬ (0 ≤ x ∧ x < (l.length : Int)) then (3, a, b, c, w) else if t.size ≠ 64 then (4, a, b, c, w) else if a = 0 then (5, -1, true, c, w) else (0, dec a, b, c + 1, w ++ [(x, t)])

theorem writeP {β : Type} {F n k : Nat} {x a c : Int} {t : ByteArray} {b : Bool} {l : List ByteArray} {w : WL} (h : DS n k a c l w) {K : Int → Int → Bool → Int → WL → Option β} :
    f48_1 F x t a b c l w K = K (wS x t a b c l w).1 (wS x t a b c l w).2.1 (wS x t a b c l w).2.2.1 (wS x t a b c l w).2.2.2.1 (wS x t a b c l w).2.2.2.2 := by
  have hk := h.k300; have hwl := h.wl; have ha := h.ar; have hc := h.cr
  rw [f48_1, wS]
  cases b with
  | true => rfl
  | false =>
    rw [cond_false, if_neg (by simp), f64_1, f65_1, f66_1]
    by_cases h1 : 0 ≤ x
    · rw [ct (by omega)]
      by_cases h2 : x < (l.length : Int)
      · rw [if_neg (by simp [h1, h2]), decide_eq_true h2, Bool.not_true, cond_false]
        by_cases h3 : t.size = 64
        · rw [if_neg (by simp [h3]), show ((t.size : Int) == 64) = true from by simp [h3], Bool.not_true, cond_false]
          by_cases h4 : a = 0
          · subst h4; rfl
          · rw [if_neg h4, show (a == 0) = false from by simp [h4], cond_false, dec]
            by_cases h5 : a = -1
            · rw [if_pos h5, show (a == -1) = true from by simp [h5], cond_true, cond_false, ct (by omega), w64 (by omega) (by omega)]
            · rw [if_neg h5, show (a == -1) = false from by simp [h5], cond_false, cond_false, ct (by omega), w64 (x := a - 1) (by omega) (by omega), w64 (by omega) (by omega)]
        · rw [if_pos (by simpa using h3), show ((t.size : Int) == 64) = false from by simp; omega]; rfl
      · rw [if_pos (by omega), decide_eq_false h2]; rfl
    · rw [cf (by omega), if_pos (by omega)]; rfl

/-! ### A flush -/

def put1 (l : List ByteArray) (p : Int × ByteArray) : List ByteArray := l.set p.1.toNat p.2
theorem put1_len (l : List ByteArray) (p : Int × ByteArray) : (put1 l p).length = l.length := by simp [put1]
theorem puts_len : ∀ (w : WL) (l : List ByteArray), (w.foldl put1 l).length = l.length
  | [], l => rfl
  | p :: r, l => by rw [List.foldl_cons, puts_len r, put1_len]

theorem flushPl {β : Type} {F n : Nat} {a c : Int} {b : Bool} {w : WL} {K : List ByteArray → Option β} (hw : w.length ≤ 300) (hb : ∀ p ∈ w, 0 ≤ p.1 ∧ p.1 < (n : Int)) : ∀ (r : WL) (i k : Nat) (l : List ByteArray), w.drop i = r → i ≤ w.length → r.length < k → l.length = n →
    f49_1_l6 F ((w.length : Nat) : Int) a b c w K k (i : Int) l = K (r.foldl put1 l)
  | [], i, 0, s, _, _, hk, _ => by simp at hk
  | _ :: _, i, 0, s, _, _, hk, _ => by simp at hk
  | [], i, k + 1, s, hd, hi, _, _ => by
    have := len_of_drop_nil hd hi
    rw [f49_1_l6, cf (by omega)]; rfl
  | p :: r, i, k + 1, l, hd, hi, hk, hl => by
    obtain ⟨h1, h2, h3⟩ := getD_of_drop (d := ((0, ByteArray.empty) : Int × ByteArray)) hd
    have hp := hb p (List.mem_of_mem_drop (by rw [hd]; simp))
    rw [f49_1_l6, ct (by omega), ct (by omega), ct (by omega), h2, ct (by omega), ct (by omega), w64 (by omega) (by omega), Nat.zero_add, List.foldl_cons]
    exact flushPl hw hb r (i + 1) k (put1 l p) h3 (by omega) (by simp at hk; omega) (by rw [put1_len]; exact hl)

def fS (a : Int) (b : Bool) (c : Int) (l : List ByteArray) (w : WL) : Int × Int × Bool × Int × List ByteArray × WL :=
  if b then (5, a, b, c, l, w) else if a = 0 then (5, -1, true, c, l, w) else (0, dec a, b, c + 1, w.foldl put1 l, [])

theorem flushP {β : Type} {F n k : Nat} (hF : 400 ≤ F) {a c : Int} {b : Bool} {l : List ByteArray} {w : WL} (h : DS n k a c l w) {K : Int → Int → Bool → Int → List ByteArray → WL → Option β} :
    f49_1 F a b c l w K = K (fS a b c l w).1 (fS a b c l w).2.1 (fS a b c l w).2.2.1 (fS a b c l w).2.2.2.1 (fS a b c l w).2.2.2.2.1 (fS a b c l w).2.2.2.2.2 := by
  have hk := h.k300; have hwl := h.wl; have ha := h.ar; have hc := h.cr
  rw [f49_1, fS, f66_1]
  cases b with
  | true => rfl
  | false =>
    rw [cond_false, if_neg (by simp)]
    by_cases h4 : a = 0
    · subst h4; rfl
    · rw [if_neg h4, show (a == 0) = false from by simp [h4], cond_false, dec]
      by_cases h5 : a = -1
      · rw [if_pos h5, show (a == -1) = true from by simp [h5], cond_true, Bool.not_true, cond_false, w64 (by omega) (by omega)]
        exact flushPl (by omega) h.wb w 0 F l rfl (by omega) (by omega) h.len
      · rw [if_neg h5, show (a == -1) = false from by simp [h5], cond_false, Bool.not_true, cond_false, w64 (x := a - 1) (by omega) (by omega), w64 (by omega) (by omega)]
        exact flushPl (by omega) h.wb w 0 F l rfl (by omega) (by omega) h.len

section
variable {n k : Nat} {a c : Int} {l : List ByteArray} {w : WL}
theorem DS.more (h : DS n k a c l w) (hk : k < 300) : DS n (k + 1) a c l w := ⟨h.n40, by omega, h.len, by have := h.wl; omega, h.wb, h.ar, by have := h.cr; omega⟩
theorem DS.off (h : DS n k a c l w) (hk : k < 300) : DS n (k + 1) (-1) c l w := ⟨h.n40, by omega, h.len, by have := h.wl; omega, h.wb, by omega, by have := h.cr; omega⟩
theorem DS.fuse (h : DS n k a c l w) (hk : k < 300) {x : Int} (hx : x ≤ 9223372036854775807) : DS n (k + 1) (if (-1) > x then (-1) else x) c l w := ⟨h.n40, by omega, h.len, by have := h.wl; omega, h.wb, by split <;> omega, by have := h.cr; omega⟩
theorem DS.wrote (h : DS n k a c l w) (hk : k < 300) (h0 : a ≠ 0) {x : Int} {t : ByteArray} (hx : 0 ≤ x ∧ x < (l.length : Int)) : DS n (k + 1) (dec a) (c + 1) l (w ++ [(x, t)]) :=
  ⟨h.n40, by omega, h.len, by have := h.wl; simp; omega, fun p hp => by
    rcases List.mem_append.1 hp with hp | hp
    · exact h.wb p hp
    · simp at hp; subst hp; rw [← h.len]; exact hx, by have := h.ar; unfold dec; split <;> omega, by have := h.cr; omega⟩
theorem DS.flushed (h : DS n k a c l w) (hk : k < 300) (h0 : a ≠ 0) : DS n (k + 1) (dec a) (c + 1) (w.foldl put1 l) [] :=
  ⟨h.n40, by omega, by rw [puts_len]; exact h.len, by simp, fun p hp => (by cases hp), by have := h.ar; unfold dec; split <;> omega, by have := h.cr; omega⟩
end

theorem wS_same {x a c : Int} {t : ByteArray} {b : Bool} {l : List ByteArray} {w : WL} (h : (wS x t a b c l w).1 ≠ 0) : (wS x t a b c l w).2.2.2.2 = w := by
  unfold wS at h ⊢
  split
  · rfl
  · split
    · rfl
    · split
      · rfl
      · split
        · rfl
        · rename_i h1 h2 h3 h4
          rw [if_neg h1, if_neg h2, if_neg h3, if_neg h4] at h
          exact (h rfl).elim

theorem wS_ok {n k : Nat} {x a c : Int} {t : ByteArray} {b : Bool} {l : List ByteArray} {w : WL} (h : DS n k a c l w) (hk : k < 300) : DS n (k + 1) (wS x t a b c l w).2.1 (wS x t a b c l w).2.2.2.1 l (wS x t a b c l w).2.2.2.2 := by
  unfold wS
  split
  · exact h.more hk
  · split
    · exact h.more hk
    · rename_i h2
      split
      · exact h.more hk
      · split
        · exact h.off hk
        · rename_i h4
          exact h.wrote hk h4 (Classical.not_not.1 h2)

theorem fS_same {a c : Int} {b : Bool} {l : List ByteArray} {w : WL} (h : (fS a b c l w).1 ≠ 0) : (fS a b c l w).1 = 5 ∧ (fS a b c l w).2.2.2.2.1 = l ∧ (fS a b c l w).2.2.2.2.2 = w := by
  unfold fS at h ⊢
  split
  · exact ⟨rfl, rfl, rfl⟩
  · split
    · exact ⟨rfl, rfl, rfl⟩
    · rename_i h1 h2
      rw [if_neg h1, if_neg h2] at h
      exact (h rfl).elim

theorem fS_ok {n k : Nat} {a c : Int} {b : Bool} {l : List ByteArray} {w : WL} (h : DS n k a c l w) (hk : k < 300) : DS n (k + 1) (fS a b c l w).2.1 (fS a b c l w).2.2.2.1 (fS a b c l w).2.2.2.2.1 (fS a b c l w).2.2.2.2.2 := by
  unfold fS
  split
  · exact h.more hk
  · split
    · exact h.off hk
    · rename_i h4
      exact h.flushed hk h4

end Go.Proofs.YtlgopekjjkdkiaaDoor.X
end

section
/- A disk: crashes; a write, then a flush. -/
namespace Go.Proofs.YtlgopekjjkdkiaaDoor.X
open Go Go.Proofs.YtlgopekjjkdkiaaDoor.Ev
set_option linter.unusedSectionVars false
variable [FZ]
set_option linter.unusedVariables false
set_option linter.unusedSimpArgs false

/-- A crash: the i-th write is kept where the i-th word says so. -/
def crB (ks : List Bool) : Nat → WL → List ByteArray → List ByteArray
  | _, [], l => l
  | i, p :: r, l => crB ks (i + 1) r (if ks.getD i false then put1 l p else l)

theorem crB_len (ks : List Bool) : ∀ (w : WL) (i : Nat) (l : List ByteArray), (crB ks i w l).length = l.length
  | [], _, l => rfl
  | p :: r, i, l => by
    rw [crB, crB_len ks r]
    split
    · exact put1_len l p
    · rfl

theorem crB_stop (ks : List Bool) : ∀ (w : WL) (i : Nat) (l : List ByteArray), ks.length ≤ i → crB ks i w l = l
  | [], _, l, _ => rfl
  | p :: r, i, l, h => by
    rw [crB, crB_stop ks r (i + 1) _ (by omega), getD_out h]; rfl

theorem crashPl {β : Type} {F n : Nat} {a c : Int} {b : Bool} {w : WL} {ks : List Bool} {K : List ByteArray → Option β} (hw : w.length ≤ 300) (hb : ∀ p ∈ w, 0 ≤ p.1 ∧ p.1 < (n : Int)) : ∀ (r : WL) (i k : Nat) (l : List ByteArray), w.drop i = r → i ≤ w.length → r.length < k → l.length = n →
    f11_1_l2 F ((w.length : Nat) : Int) a b c w ks K k (i : Int) l = K (crB ks i r l)
  | [], i, 0, s, _, _, hk, _ => by simp at hk
  | _ :: _, i, 0, s, _, _, hk, _ => by simp at hk
  | [], i, k + 1, s, hd, hi, _, _ => by
    have := len_of_drop_nil hd hi
    rw [f11_1_l2, cf (by omega)]; rfl
  | p :: r, i, k + 1, l, hd, hi, hk, hl => by
    obtain ⟨h1, h2, h3⟩ := getD_of_drop (d := ((0, ByteArray.empty) : Int × ByteArray)) hd
    have hp := hb p (List.mem_of_mem_drop (by rw [hd]; simp))
    have ih := fun l hl => crashPl (F := F) (a := a) (b := b) (c := c) (ks := ks) (K := K) hw hb r (i + 1) k l h3 (by omega) (by simp at hk; omega) hl
    push_cast at ih
    rw [f11_1_l2, ct (by omega), ct (by omega), ct (by omega), h2, w64 (by omega) (by omega), crB]
    by_cases hq : (i : Int) < ((ks.length : Nat) : Int)
    · have hg : ks.getD (0 + (i : Int).toNat) false = ks.getD i false := by rw [Nat.zero_add]; rfl
      rw [ct hq, ct (by omega), ct (by omega), hg]
      cases ks.getD i false with
      | false => rw [cond_false, ih l hl]; rfl
      | true => rw [cond_true, ct (by omega), ct (by omega), Nat.zero_add]; exact ih (put1 l p) (by rw [put1_len]; exact hl)
    · rw [cf hq, ih l hl, getD_out (by omega)]; rfl

theorem crashP {β : Type} {F n k : Nat} (hF : 400 ≤ F) {a c : Int} {b : Bool} {l : List ByteArray} {w : WL} (h : DS n k a c l w) {ks : List Bool} {K : List ByteArray → WL → Option β} :
    f11_1 F a b c l w ks K = K (crB ks 0 w l) [] := by
  have hk := h.k300; have hwl := h.wl
  rw [f11_1]
  exact crashPl (by omega) h.wb w 0 F l rfl (by omega) (by omega) h.len

section
variable {n k : Nat} {a c : Int} {l : List ByteArray} {w : WL}
theorem DS.crashed (h : DS n k a c l w) (hk : k < 300) (ks : List Bool) : DS n (k + 1) (-1) c (crB ks 0 w l) [] :=
  ⟨h.n40, by omega, by rw [crB_len]; exact h.len, by simp, fun p hp => (by cases hp), by omega, by have := h.cr; omega⟩
theorem DS.came (h : DS n k a c l w) (hk : k < 300) : DS n (k + 1) (-1) c l [] :=
  ⟨h.n40, by omega, h.len, by simp, fun p hp => (by cases hp), by omega, by have := h.cr; omega⟩

end

abbrev St := Int × Int × Bool × Int × List ByteArray × WL

/-- A write, then a flush; or why not. -/
def svS (x : Int) (t : ByteArray) (a : Int) (b : Bool) (c : Int) (l : List ByteArray) (w : WL) : St :=
  if (wS x t a b c l w).1 ≠ 0 then ((wS x t a b c l w).1, (wS x t a b c l w).2.1, (wS x t a b c l w).2.2.1, (wS x t a b c l w).2.2.2.1, l, (wS x t a b c l w).2.2.2.2)
  else fS (wS x t a b c l w).2.1 (wS x t a b c l w).2.2.1 (wS x t a b c l w).2.2.2.1 l (wS x t a b c l w).2.2.2.2

def app {β : Type} (K : Int → Int → Bool → Int → List ByteArray → WL → Option β) (s : St) : Option β := K s.1 s.2.1 s.2.2.1 s.2.2.2.1 s.2.2.2.2.1 s.2.2.2.2.2

theorem svS_ok {m k : Nat} {a d : Int} {b : Bool} {l : List ByteArray} {w : WL} {x : Int} {t : ByteArray} (h : DS m k a d l w) (hk : k < 299) : DS m (k + 2) (svS x t a b d l w).2.1 (svS x t a b d l w).2.2.2.1 (svS x t a b d l w).2.2.2.2.1 (svS x t a b d l w).2.2.2.2.2 := by
  have h1 := wS_ok (x := x) (t := t) (b := b) h (by omega)
  unfold svS
  by_cases q : (wS x t a b d l w).1 = 0
  · rw [if_neg (show ¬ (wS x t a b d l w).1 ≠ 0 from fun hh => hh q)]
    exact fS_ok h1 (by omega)
  · rw [if_pos (show (wS x t a b d l w).1 ≠ 0 from q)]
    exact h1.more (by omega)

theorem svS_P {β : Type} {m k : Nat} {a d : Int} {b : Bool} {l : List ByteArray} {w : WL} {x : Int} {t : ByteArray} (h : DS m k a d l w) (hk : k < 299) {K : Int → Int → Bool → Int → List ByteArray → WL → Option β} :
    f48_1 20000 x t a b d l w (fun e a b c w => cond (e != 0) (K e a b c l w) (f49_1 20000 a b c l w K)) = app K (svS x t a b d l w) := by
  rw [writeP h, svS]
  by_cases q : (wS x t a b d l w).1 = 0
  · rw [if_neg (fun hh => hh q), flushP (by omega) (wS_ok h (by omega)), q]; rfl
  · rw [if_pos q, show ((wS x t a b d l w).1 != 0) = true from by simp [q]]; rfl

end Go.Proofs.YtlgopekjjkdkiaaDoor.X
end

section
/- Records: sums, numbers as bytes; the code's and the document's, in one form. -/
namespace Go.Proofs.YtlgopekjjkdkiaaDoor.X
open Go Go.Proofs.YtlgopekjjkdkiaaDoor.Ev
set_option linter.unusedSectionVars false
variable [FZ]
set_option linter.unusedVariables false
set_option linter.unusedSimpArgs false

theorem x32 (x y : Int) : 0 ≤ ixor .u32 x y ∧ ixor .u32 x y < 4294967296 := by
  unfold ixor; rw [wu32m]; omega
theorem x8 (x y : Int) : 0 ≤ ixor .u8 x y ∧ ixor .u8 x y < 256 := by
  unfold ixor; rw [wu8m]; omega

theorem sh8 {n : Int} (h : 0 ≤ n ∧ n < 4294967296) : IntKind.u32.wrap (n.tdiv 256) = ishr .u32 n 8 := by
  have e : (2 : Int) ^ (min (8 : Int).toNat IntKind.u32.bits) = 256 := by decide
  rw [ishr, e, Int.fdiv_eq_ediv_of_nonneg _ (by omega), Int.tdiv_eq_ediv_of_nonneg h.1, wu32 (by omega) (by omega)]

/-- The table: each byte's step. -/
def eStep (x : Int) : Int := if (iand .u32 x 1) == 1 then ixor .u32 (ishr .u32 x 1) 2197175160 else ishr .u32 x 1
def ent (x : Int) : Int := eStep (eStep (eStep (eStep (eStep (eStep (eStep (eStep x)))))))
def tb : List Int := (List.range 256).map fun (i : Nat) => ent (i : Int)
theorem tb_len : tb.length = 256 := by simp [tb]

set_option maxRecDepth 100000 in
theorem tableP {β : Type} {K : List Int → Option β} : f80_1 20000 K = K tb := by kernel_rfl

def crcS : Int → List Int → Int
  | n, [] => n
  | n, c :: r => crcS (ixor .u32 (ishr .u32 n 8) (tb.getD (ixor .u8 (IntKind.u8.wrap n) c).toNat 0)) r
def crc (b : List Int) : Int := ixor .u32 4294967295 (crcS (ixor .u32 4294967295 0) b)

theorem atL {α : Type} {l r : List α} {x d : α} {i : Nat} (hd : l.drop i = x :: r) : i < l.length ∧ l.getD (0 + (i : Int).toNat) d = x ∧ l.drop (i + 1) = r := by
  have h1 : i < l.length := by
    rcases Nat.lt_or_ge i l.length with h1 | h1
    · exact h1
    · rw [List.drop_eq_nil_of_le h1] at hd; cases hd
  rw [List.drop_eq_getElem_cons h1] at hd
  injection hd with h2 h3
  refine ⟨h1, ?_, h3⟩
  simp [h1, h2]

theorem nilL {α : Type} {l : List α} {i : Nat} (h : l.drop i = []) (hi : i ≤ l.length) : i = l.length := by
  have := congrArg List.length h
  simp at this; omega

theorem crcPl {β : Type} {F : Nat} {b : List Int} {K : Int → Option β} (hb : b.length ≤ 100000) : ∀ (r : List Int) (i k : Nat) (n : Int), b.drop i = r → i ≤ b.length → r.length < k →
    f73_1_l4 F ((b.length : Nat) : Int) b tb K k n (i : Int) = K (crcS n r)
  | [], i, 0, _, _, _, hk => by simp at hk
  | _ :: _, i, 0, _, _, _, hk => by simp at hk
  | [], i, k + 1, n, hd, hi, _ => by
    have := nilL hd hi
    rw [f73_1_l4, cf (by omega)]; rfl
  | c :: r, i, k + 1, n, hd, hi, hk => by
    obtain ⟨h1, h2, h3⟩ := atL (d := (0 : Int)) hd
    have hx := x8 (IntKind.u8.wrap n) c
    rw [f73_1_l4, ct (by omega), ct (by omega), ct (by omega), h2, ct hx, ct (by rw [tb_len]; omega), w64 (by omega) (by omega), crcS]
    exact crcPl hb r (i + 1) k _ h3 (by omega) (by simp at hk; omega)

theorem crcP {β : Type} {b : List Int} {K : Int → Option β} (hb : b.length ≤ 10000) : f54_1 20000 b K = K (crc b) := by
  rw [f54_1, f73_1, tableP]
  exact crcPl (K := fun x7 => K (ixor .u32 4294967295 x7)) (by omega) b 0 20000 _ rfl (by omega) (by omega)

/-! ### Numbers as bytes -/

def b4 (n : Int) : List Int := [IntKind.u8.wrap (ishr .u64 n 24), IntKind.u8.wrap (ishr .u64 n 16), IntKind.u8.wrap (ishr .u64 n 8), IntKind.u8.wrap (ishr .u64 n 0)]
theorem put4 {β : Type} {n : Int} {K : List Int → Option β} : f55_1 20000 4 n [] K = K (b4 n) := by kernel_rfl
end Go.Proofs.YtlgopekjjkdkiaaDoor.X
end

section
/- Records: made, opened; the code's and the document's, in one form. -/
namespace Go.Proofs.YtlgopekjjkdkiaaDoor.X
open Go Go.Proofs.YtlgopekjjkdkiaaDoor.Ev
set_option linter.unusedSectionVars false
variable [FZ]
set_option linter.unusedVariables false
set_option linter.unusedSimpArgs false

/-! ### Bytes -/

abbrev D (s : ByteArray) : List UInt8 := s.data.toList

theorem extB {s t : ByteArray} (h : D s = D t) : s = t := by
  cases s; cases t
  congr
  exact Array.toList_inj.1 h

theorem D_app (s t : ByteArray) : D (s ++ t) = D s ++ D t := by simp [D]
theorem D_ext (s : ByteArray) (a b : Nat) : D (s.extract a b) = ((D s).drop a).take (b - a) := by
  simp only [D, ByteArray.data_extract, Array.toList_extract, List.extract_eq_take_drop]
theorem D_size (s : ByteArray) : s.size = (D s).length := Array.length_toList.symm
theorem D_ofInts (l : List Int) : D (ofInts l) = l.map fun n => UInt8.ofNat n.toNat := by simp [D, ofInts]
theorem toInts_D (s : ByteArray) : toInts s = (D s).map fun c => (c.toNat : Int) := rfl

theorem loopB (s : ByteArray) : ∀ (m i : Nat) (r : List UInt8), i + m = s.size → ByteArray.toList.loop s i r = r.reverse ++ (D s).drop i
  | 0, i, r, h => by
    rw [ByteArray.toList.loop, if_neg (by omega), List.drop_eq_nil_of_le (by rw [← D_size]; omega), List.append_nil]
  | m + 1, i, r, h => by
    have h1 : i < (D s).length := by rw [← D_size]; omega
    rw [ByteArray.toList.loop, if_pos (by omega), loopB s m (i + 1) _ (by omega), List.drop_eq_getElem_cons h1]
    have : s.get! i = (D s)[i] := by
      have h2 : i < s.data.size := by have := h1; simpa [D] using this
      simp only [ByteArray.get!, D, Array.getElem_toList]
      exact getElem!_pos s.data i h2
    rw [this]; simp

theorem toList_D (s : ByteArray) : s.toList = D s := by
  rw [ByteArray.toList, loopB s s.size 0 [] (by omega)]; rfl

theorem beqB {s t : ByteArray} : (s.toList == t.toList) = decide (s = t) := by
  rw [toList_D, toList_D, Bool.eq_iff_iff]
  simp only [beq_iff_eq, decide_eq_true_eq]
  exact ⟨extB, fun h => by rw [h]⟩

/-! ### A record -/

def front (k : Int) (b : ByteArray) : ByteArray := ⟨(UInt8.ofNat k.toNat :: UInt8.ofNat b.size :: (D b ++ List.replicate (58 - b.size) 0)).toArray⟩
def mkB (k : Int) (b : ByteArray) : ByteArray := front k b ++ ofInts (b4 (crc (toInts (front k b))))
def mkR (k : Int) (b : ByteArray) : ByteArray × Int := if k < 1 ∨ k > 8 then (ByteArray.empty, 22) else if b.size > 58 then (ByteArray.empty, 8) else (mkB k b, 0)

theorem front_D (k : Int) (b : ByteArray) : D (front k b) = UInt8.ofNat k.toNat :: UInt8.ofNat b.size :: (D b ++ List.replicate (58 - b.size) 0) := by simp [D, front]
theorem front_size {k : Int} {b : ByteArray} (h : b.size ≤ 58) : (front k b).size = 60 := by
  rw [D_size, front_D]; simp [← D_size]
  have := D_size b
  simp [D] at this
  omega

theorem crc_r (b : List Int) : 0 ≤ crc b ∧ crc b < 4294967296 := x32 _ _

theorem sumP {β : Type} {s : ByteArray} (h : 60 ≤ s.size) {K : ByteArray → Option β} : f53_1 20000 s K = K (ofInts (b4 (crc (toInts (s.extract 0 60))))) := by
  have hc := crc_r (toInts (s.extract 0 60))
  have hl : (toInts (s.extract 0 60)).length ≤ 60 := by
    rw [toInts_D, D_ext]; simp; omega
  rw [f53_1, ct (by omega), crcP (by omega), wu64 (by omega) (by omega), put4]

theorem ext_all {s : ByteArray} {n : Nat} (h : s.size = n) : s.extract 0 n = s := by
  apply extB
  rw [D_ext, List.drop_zero, List.take_of_length_le (by rw [← D_size]; omega)]

theorem rep0 (n : Nat) : D (rep ⟨#[0]⟩ n) = List.replicate n 0 := by
  show D ⟨(Lib.repeatL [0] n).toArray⟩ = _
  have : ∀ n, Lib.repeatL [(0 : UInt8)] n = List.replicate n 0 := fun n => by
    induction n with
    | zero => rfl
    | succ n ih => simp [Lib.repeatL, ih, List.replicate_succ]
  simp [D, this]

theorem u8n {n : Int} (h : 0 ≤ n ∧ n < 256) : IntKind.u8.wrap n = n := wu8 h.1 h.2

theorem shr0 {n : Int} (h : 0 ≤ n) : ishr .u64 n 0 = n := by
  have e : (2 : Int) ^ (min (0 : Int).toNat IntKind.u64.bits) = 1 := by decide
  rw [ishr, e, Int.fdiv_eq_ediv_of_nonneg _ (by omega), Int.ediv_one]

theorem makeP {β : Type} {k : Int} {b : ByteArray} (hb : b.size ≤ maxLen) {K : ByteArray → Int → Option β} : f32_1 20000 k b K = K (mkR k b).1 (mkR k b).2 := by
  rw [f32_1, mkR]
  by_cases h1 : k < 1
  · rw [ct h1, if_pos (.inl h1)]
  · by_cases h2 : k > 8
    · rw [cf h1, ct h2, if_pos (.inr h2)]
    · rw [cf h1, cf h2, if_neg (by omega)]
      by_cases h3 : b.size > 58
      · rw [ct (by omega), if_pos h3]
      · have hs2 : (ofInts [IntKind.u8.wrap k, IntKind.u8.wrap (b.size : Int)]).size = 2 := by rw [D_size, D_ofInts]; rfl
        have hs : (ofInts [IntKind.u8.wrap k, IntKind.u8.wrap (b.size : Int)] ++ b).size = 2 + b.size := by rw [D_size, D_app, List.length_append, ← D_size, ← D_size, hs2]
        rw [cf (by omega), if_neg h3, ct (by omega), f52_1, hs, w64 (by omega) (by omega), ct ⟨by omega, by omega, by
          have : (⟨#[0]⟩ : ByteArray).size = 1 := rfl
          rw [this]; omega⟩]
        have hf : ofInts [IntKind.u8.wrap k, IntKind.u8.wrap (b.size : Int)] ++ b ++ rep ⟨#[0]⟩ (60 - ((2 + b.size : Nat) : Int)).toNat = front k b := by
          apply extB
          rw [D_app, D_app, rep0, D_ofInts, front_D, u8n (by omega), u8n (by omega), show (60 - ((2 + b.size : Nat) : Int)).toNat = 58 - b.size by omega]
          simp
        have hfs := front_size (k := k) (b := b) (by omega)
        have hr : (rep ⟨#[0]⟩ (60 - ((2 + b.size : Nat) : Int)).toNat).size ≤ 60 := by rw [D_size, rep0]; simp; omega
        rw [ct (by omega), hf, sumP (by omega), ext_all hfs, ct (by
          rw [hfs, D_size, D_ofInts]; simp [b4])]
        rfl

noncomputable def Z64 : ByteArray := ofInts (List.replicate 64 0)
theorem zero64 {β : Type} {K : ByteArray → Option β} : f21_1 20000 K = K Z64 := by kernel_rfl
theorem Z64_D : D Z64 = List.replicate 64 0 := by rw [Z64, D_ofInts]; rfl

/-! ### What a sector is -/

def byt (s : ByteArray) (i : Nat) : Int := ((s.data.getD i 0).toNat : Int)
theorem byt_r (s : ByteArray) (i : Nat) : 0 ≤ byt s i ∧ byt s i < 256 := by
  have := (s.data.getD i 0).toNat_lt
  unfold byt; omega
def sm (s : ByteArray) : ByteArray := ofInts (b4 (crc (toInts (s.extract 0 60))))
def zer (s : ByteArray) (n : Nat) : Bool := (((D s).drop n).take (60 - n)).all (· == 0)
def kd (s : ByteArray) : Int × Int := if s.size ≠ 64 then (0, 4) else if ((sm s).toList == (s.extract 60 64).toList) = false then (0, 9) else
  if byt s 0 < 1 ∨ byt s 0 > 8 ∨ byt s 1 > 58 ∨ zer s (2 + (byt s 1).toNat) = false then (0, 6) else (byt s 0, 0)

theorem dropW_nil {p : UInt8 → Bool} : ∀ l : List UInt8, l.dropWhile p = [] ↔ l.all p = true
  | [] => by simp
  | x :: r => by
    rw [List.dropWhile_cons, List.all_cons]
    cases h : p x with
    | true => simpa using dropW_nil r
    | false => simp

theorem dropW_head {p : UInt8 → Bool} : ∀ (l : List UInt8) {y : UInt8} {r : List UInt8}, l.dropWhile p = y :: r → p y = false
  | [], y, r, h => by cases h
  | x :: l, y, r, h => by
    rw [List.dropWhile_cons] at h
    cases hx : p x with
    | true => rw [hx, if_pos rfl] at h; exact dropW_head l h
    | false => rw [hx, if_neg (by simp)] at h; injection h with h1 h2; rw [← h1]; exact hx

theorem trim_nil (l : List UInt8) : Lib.trimS l [0] = [] ↔ l.all (· == 0) = true := by
  have hp : ∀ x : UInt8, [(0 : UInt8)].contains x = (x == 0) := fun x => by rw [Bool.eq_iff_iff]; simp
  rw [Lib.trimS, Lib.trimLeftS, Lib.trimRightS, dropW_nil]
  constructor
  · intro h
    cases hq : l.reverse.dropWhile ([(0 : UInt8)].contains ·) with
    | nil =>
      have := (dropW_nil _).1 hq
      rw [List.all_reverse] at this
      simpa [hp] using this
    | cons y r =>
      have h1 := dropW_head _ hq
      rw [hq, List.all_reverse, List.all_cons, h1] at h
      cases h
  · intro h
    have : l.reverse.dropWhile ([(0 : UInt8)].contains ·) = [] := (dropW_nil _).2 (by rw [List.all_reverse]; simpa [hp] using h)
    rw [this]; rfl

theorem trm0 (x : ByteArray) : ((trm x ⟨#[0]⟩).toList == ByteArray.empty.toList) = (D x).all (· == 0) := by
  rw [beqB, Bool.eq_iff_iff, decide_eq_true_eq, ← trim_nil]
  constructor
  · intro h
    have : D (trm x ⟨#[0]⟩) = [] := by rw [h]; rfl
    simpa [D, trm] using this
  · intro h
    apply extB
    show D (trm x ⟨#[0]⟩) = []
    simpa [D, trm] using h

theorem kindP {β : Type} {s : ByteArray} {K : Int → Int → Option β} : f75_1 20000 s K = K (kd s).1 (kd s).2 := by
  rw [f75_1, f65_1, kd]
  by_cases h1 : s.size = 64
  · have b0 := byt_r s 0
    have b1 := byt_r s 1
    have e0 : ((s.data.getD 0 0).toNat : Int) = byt s 0 := rfl
    have e1 : ((s.data.getD 1 0).toNat : Int) = byt s 1 := rfl
    rw [show ((s.size : Int) == 64) = true by simp; omega, Bool.not_true, cond_false, if_neg (by omega), ct (by omega), sumP (by omega), show ((s.size : Int).toNat) = 64 by omega, e0, e1, w64 (x := byt s 0) (by omega) (by omega), w64 (x := byt s 1) (by omega) (by omega), ← sm]
    cases h2 : ((sm s).toList == (s.extract 60 64).toList) with
    | false => rfl
    | true =>
      rw [Bool.not_true, cond_false, if_neg (by simp), ct (by omega), ct (by omega)]
      by_cases h3 : byt s 0 < 1
      · rw [ct h3, if_pos (.inl h3)]
      · by_cases h4 : byt s 0 > 8
        · rw [cf h3, ct h4, if_pos (.inr (.inl h4))]
        · by_cases h5 : byt s 1 > 58
          · rw [cf h3, cf h4, ct h5, if_pos (.inr (.inr (.inl h5)))]
          · have hn : (2 + byt s 1).toNat = 2 + (byt s 1).toNat := by omega
            have hx : D (s.extract (2 + byt s 1).toNat 60) = ((D s).drop (2 + (byt s 1).toNat)).take (60 - (2 + (byt s 1).toNat)) := by rw [D_ext, hn]
            have hxs : (s.extract (2 + byt s 1).toNat 60).size ≤ 64 := by rw [D_size, hx]; simp; omega
            rw [cf h3, cf h4, cf h5, w64 (x := 2 + byt s 1) (by omega) (by omega), ct (by omega), f81_1, ct ⟨by omega, by decide, by decide⟩, trm0, hx, ← zer]
            cases h6 : zer s (2 + (byt s 1).toNat) with
            | true => rw [Bool.not_true, cond_false, if_neg (by simp; omega)]
            | false => rw [Bool.not_false, cond_true, if_pos (.inr (.inr (.inr rfl)))]
  · rw [show ((s.size : Int) == 64) = false by simp; omega, Bool.not_false, cond_true, if_pos h1]

theorem kd_size {s : ByteArray} (h : (kd s).2 = 0) : s.size = 64 ∧ byt s 1 ≤ 58 ∧ zer s (2 + (byt s 1).toNat) = true ∧ (kd s).1 = byt s 0 ∧ 1 ≤ byt s 0 ∧ byt s 0 ≤ 8 ∧ ((sm s).toList == (s.extract 60 64).toList) = true := by
  unfold kd at h ⊢
  split at h
  · cases h
  · rename_i h1
    split at h
    · cases h
    · rename_i h2
      split at h
      · cases h
      · rename_i h3
        rw [if_neg h1, if_neg h2, if_neg h3]
        refine ⟨by omega, by omega, ?_, rfl, by omega, by omega, by simpa using h2⟩
        cases hz : zer s (2 + (byt s 1).toNat) with
        | true => rfl
        | false => exact (h3 (.inr (.inr (.inr hz)))).elim

def opn (k : Int) (s : ByteArray) : ByteArray × Int := if (kd s).2 ≠ 0 then (ByteArray.empty, (kd s).2) else if (kd s).1 ≠ k then (ByteArray.empty, 22) else (s.extract 2 (2 + (byt s 1).toNat), 0)

theorem openP {β : Type} {k : Int} {s : ByteArray} {K : ByteArray → Int → Option β} : f56_1 20000 k s K = K (opn k s).1 (opn k s).2 := by
  rw [f56_1, kindP, opn]
  have e1 : ((s.data.getD 1 0).toNat : Int) = byt s 1 := rfl
  have b1 := byt_r s 1
  by_cases h1 : (kd s).2 = 0
  · obtain ⟨q1, q2, _⟩ := kd_size h1
    rw [h1, show ((0 : Int) != 0) = false from rfl, cond_false, if_neg (by simp), e1, w64 (x := byt s 1) (by omega) (by omega), w64 (x := 2 + byt s 1) (by omega) (by omega)]
    by_cases h2 : (kd s).1 = k
    · rw [h2, show (k != k) = false by simp, cond_false, if_neg (by simp), ct (by omega), ct (by omega), show (2 + byt s 1).toNat = 2 + (byt s 1).toNat by omega]
    · rw [show ((kd s).1 != k) = true by simp [h2], cond_true, if_pos h2]
  · rw [show ((kd s).2 != 0) = true by simp [h1], cond_true, if_pos h1]

end Go.Proofs.YtlgopekjjkdkiaaDoor.X
end

section
/- Records: what is made is opened again, and the other way round. -/
namespace Go.Proofs.YtlgopekjjkdkiaaDoor.X
open Go Go.Proofs.YtlgopekjjkdkiaaDoor.Ev
set_option linter.unusedSectionVars false
variable [FZ]
set_option linter.unusedVariables false
set_option linter.unusedSimpArgs false

theorem mkB_D (k : Int) (b : ByteArray) : D (mkB k b) = UInt8.ofNat k.toNat :: UInt8.ofNat b.size :: (D b ++ (List.replicate (58 - b.size) 0 ++ D (ofInts (b4 (crc (toInts (front k b))))))) := by
  rw [mkB, D_app, front_D]; simp

theorem b4_size (n : Int) : (ofInts (b4 n)).size = 4 := by rw [D_size, D_ofInts]; rfl

theorem mkB_size {k : Int} {b : ByteArray} (h : b.size ≤ 58) : (mkB k b).size = 64 := by
  have hf := front_size (k := k) h
  have hc := b4_size (crc (toInts (front k b)))
  rw [D_size] at hf hc
  rw [D_size, mkB, D_app, List.length_append, hf, hc]

theorem mkB_front {k : Int} {b : ByteArray} (h : b.size ≤ 58) : (mkB k b).extract 0 60 = front k b := by
  have hf := front_size (k := k) h
  rw [D_size] at hf
  apply extB
  rw [D_ext, mkB, D_app, List.drop_zero, List.take_append_of_le_length (by omega), List.take_of_length_le (by omega)]

theorem mkB_sum {k : Int} {b : ByteArray} (h : b.size ≤ 58) : (mkB k b).extract 60 64 = sm (mkB k b) := by
  have hf := front_size (k := k) h
  have hc := b4_size (crc (toInts (front k b)))
  rw [D_size] at hf hc
  rw [sm, mkB_front h]
  apply extB
  rw [D_ext, mkB, D_app, List.drop_append_of_le_length (by omega), List.drop_eq_nil_of_le (by omega), List.nil_append, List.take_of_length_le (by omega)]

theorem getD_D (s : ByteArray) (i : Nat) : s.data.getD i 0 = (D s).getD i 0 := by simp [D]

theorem mkB_b0 {k : Int} {b : ByteArray} (h1 : 1 ≤ k) (h2 : k ≤ 8) : byt (mkB k b) 0 = k := by
  rw [byt, getD_D, mkB_D]
  show ((UInt8.ofNat k.toNat).toNat : Int) = k
  rw [UInt8.toNat_ofNat']; omega

theorem mkB_b1 {k : Int} {b : ByteArray} (h : b.size ≤ 58) : byt (mkB k b) 1 = (b.size : Int) := by
  rw [byt, getD_D, mkB_D]
  show ((UInt8.ofNat b.size).toNat : Int) = b.size
  rw [UInt8.toNat_ofNat']; omega

theorem mkB_drop {k : Int} {b : ByteArray} : (D (mkB k b)).drop (2 + b.size) = List.replicate (58 - b.size) 0 ++ D (ofInts (b4 (crc (toInts (front k b))))) := by
  have h := D_size b
  rw [mkB_D, show 2 + b.size = b.size + 1 + 1 by omega, List.drop_succ_cons, List.drop_succ_cons, List.drop_append_of_le_length (by omega), List.drop_eq_nil_of_le (by omega), List.nil_append]

theorem mkB_kd {k : Int} {b : ByteArray} (h1 : 1 ≤ k) (h2 : k ≤ 8) (h : b.size ≤ 58) : kd (mkB k b) = (k, 0) := by
  rw [kd, mkB_size h, if_neg (by omega), mkB_sum h, if_neg (by simp), mkB_b0 h1 h2, mkB_b1 h, if_neg]
  rw [show (2 + ((b.size : Nat) : Int).toNat) = 2 + b.size by omega, zer, mkB_drop, List.take_append_of_le_length (by simp; omega), List.take_of_length_le (by simp; omega)]
  simp; omega

theorem mkB_open {k : Int} {b : ByteArray} (h1 : 1 ≤ k) (h2 : k ≤ 8) (h : b.size ≤ 58) : opn k (mkB k b) = (b, 0) := by
  have hs := D_size b
  rw [opn, mkB_kd h1 h2 h, if_neg (by simp), if_neg (by simp), mkB_b1 h, show (2 + ((b.size : Nat) : Int).toNat) = 2 + b.size by omega]
  congr 1
  apply extB
  rw [D_ext, mkB_D, show (2 : Nat) = 1 + 1 from rfl, List.drop_succ_cons, List.drop_succ_cons, List.drop_zero, show 1 + 1 + b.size - (1 + 1) = b.size by omega, List.take_append_of_le_length (by omega), List.take_of_length_le (by omega)]

theorem all0 : ∀ (l : List UInt8), l.all (· == 0) = true → l = List.replicate l.length 0
  | [], _ => rfl
  | x :: r, h => by
    rw [List.all_cons, Bool.and_eq_true, beq_iff_eq] at h
    rw [List.length_cons, List.replicate_succ, ← all0 r h.2, h.1]

theorem opn_mk {k : Int} {s b : ByteArray} (h : opn k s = (b, 0)) : mkR k b = (s, 0) := by
  unfold opn at h
  split at h
  · rename_i h1
    injection h with _ h2
    exact (h1 h2).elim
  · rename_i h1
    split at h
    · injection h with _ h2; cases h2
    · rename_i h2
      injection h with h3 _
      have h1' : (kd s).2 = 0 := Classical.not_not.1 h1
      obtain ⟨q1, q2, q3, q4, q5, q6, q7⟩ := kd_size h1'
      have hk : byt s 0 = k := q4.symm.trans (Classical.not_not.1 h2)
      have hsz : (D s).length = 64 := by rw [← D_size]; exact q1
      have hb1 := byt_r s 1
      have hDb : D b = ((D s).drop 2).take (byt s 1).toNat := by rw [← h3, D_ext]; congr 1; omega
      have hbs : b.size = (byt s 1).toNat := by rw [D_size, hDb]; simp; omega
      have hmem : ∀ i, i < 64 → ∃ x, (D s)[i]? = some x := fun i hi => ⟨_, List.getElem?_eq_getElem (by omega)⟩
      have hf : front k b = s.extract 0 60 := by
        apply extB
        rw [front_D, D_ext, List.drop_zero, hbs, hDb, ← hk, byt, getD_D, byt, getD_D]
        rw [byt, getD_D] at q3 q2 hb1
        generalize hn : (((D s).getD 1 0).toNat : Int) = n at q3 q2 hb1
        match hq : D s, hsz with
        | x :: y :: r, hsz =>
          rw [hq] at hn
          have hx : UInt8.ofNat ((((x :: y :: r).getD 0 0).toNat : Int).toNat) = x := by simp
          have hy : UInt8.ofNat n.toNat = y := by rw [← hn]; simp
          rw [hx, hy]
          rw [zer, hq] at q3
          have hz := all0 _ q3
          rw [show 2 + n.toNat = n.toNat + 1 + 1 by omega, List.drop_succ_cons, List.drop_succ_cons] at hz
          simp only [List.length_cons] at hsz
          have hlen : (List.take (60 - (n.toNat + 1 + 1)) (List.drop n.toNat r)).length = 58 - n.toNat := by simp; omega
          rw [hlen] at hz
          rw [← hz, show (2 : Nat) = 1 + 1 from rfl, List.drop_succ_cons, List.drop_succ_cons, List.drop_zero, show 60 - 0 = 58 + 1 + 1 from rfl, List.take_succ_cons, List.take_succ_cons, show 60 - (n.toNat + 1 + 1) = 58 - n.toNat by omega]
          congr 2
          have := List.take_append_drop n.toNat (r.take 58)
          rw [List.take_take, List.drop_take, Nat.min_eq_left (by omega)] at this
          exact this
      rw [mkR, if_neg (by omega), if_neg (by omega)]
      congr 1
      have q8 : sm s = s.extract 60 64 := by
        rw [beqB] at q7; exact of_decide_eq_true q7
      rw [mkB, hf, ← sm, q8]
      apply extB
      rw [D_app, D_ext, D_ext, List.drop_zero, show 64 - 60 = 4 from rfl, List.take_of_length_le (l := (D s).drop 60) (by simp; omega)]
      exact List.take_append_drop 60 (D s)

end Go.Proofs.YtlgopekjjkdkiaaDoor.X
end

section
/- Numbers read from bytes; the code's and the document's, in one form. -/
namespace Go.Proofs.YtlgopekjjkdkiaaDoor.X
open Go Go.Proofs.YtlgopekjjkdkiaaDoor.Ev
set_option linter.unusedSectionVars false
variable [FZ]
set_option linter.unusedVariables false
set_option linter.unusedSimpArgs false

def num (v : Int) (l : List Int) : Int := l.foldl (fun v b => v * 256 + b) v

theorem shlor {v b : Int} (hv : 0 ≤ v ∧ v < 72057594037927936) (hb : 0 ≤ b ∧ b < 256) : ior .u64 (ishl .u64 v 8) b = v * 256 + b := by
  obtain ⟨V, rfl⟩ : ∃ V : Nat, v = (V : Int) := ⟨v.toNat, by omega⟩
  obtain ⟨B, rfl⟩ : ∃ B : Nat, b = (B : Int) := ⟨b.toNat, by omega⟩
  have e : (2 : Int) ^ (min (8 : Int).toNat IntKind.u64.bits) = 256 := by decide
  have e1 : ishl .u64 (V : Int) 8 = ((V * 256 : Nat) : Int) := by
    rw [ishl, e, wu64 (by omega) (by omega)]; omega
  rw [e1, or64 (by omega) (by omega)]
  have := Nat.two_pow_add_eq_or_of_lt (i := 8) (b := B) (by omega) V
  have h2 : 2 ^ 8 * V = V * 256 := by omega
  rw [h2] at this
  rw [← this]; omega

theorem getPl {β : Type} {F at_ w : Nat} {l : List Int} {K : Int → Option β} (hw : w ≤ 8) (hl : at_ + w ≤ l.length) (hb : ∀ x ∈ l, 0 ≤ x ∧ x < 256) : ∀ (m i k : Nat) (v : Int), m + i = w → m < k → 0 ≤ v ∧ v < 256 ^ i →
    f76_1_l7 F at_ w (w : Int) l K k v (i : Int) = K (num v ((l.drop (at_ + i)).take m))
  | _, _, 0, _, _, h, _ => by omega
  | 0, i, k + 1, v, hi, _, _ => by rw [f76_1_l7, cf (by omega)]; rfl
  | m + 1, i, k + 1, v, hi, hk, hv => by
    have h1 : at_ + i < l.length := by omega
    have hx := hb _ (List.getElem_mem h1)
    have hg : l.getD (at_ + (i : Int).toNat) 0 = l[at_ + i] := by simp [h1]
    have hp : (256 : Int) ^ i ≤ 256 ^ 7 := by
      have : (256 : Nat) ^ i ≤ 256 ^ 7 := Nat.pow_le_pow_right (by decide) (by omega)
      have h := Int.ofNat_le.2 this
      rw [Int.natCast_pow, Int.natCast_pow] at h
      exact h
    have hv2 : v * 256 + l[at_ + i] < 256 ^ (i + 1) := by rw [Int.pow_succ]; omega
    rw [f76_1_l7, ct (by omega), ct (by omega), ct (by omega), hg, wu64 (by omega) (by omega), shlor ⟨hv.1, by omega⟩ hx, w64 (by omega) (by omega), List.drop_eq_getElem_cons h1, List.take_succ_cons, num, List.foldl_cons, ← num]
    exact getPl hw hl hb m (i + 1) k _ (by omega) (by omega) ⟨by omega, hv2⟩

/-- A number of w bytes from a place on, or that there are not so many. -/
def gt (at_ w : Nat) (l : List Int) : Int × Int := if at_ + w ≤ l.length then (num 0 ((l.drop at_).take w), 0) else (0, 7)

theorem getP {β : Type} {at_ w : Nat} {l : List Int} {K : Int → Int → Option β} (h1 : 1 ≤ w) (hw : w ≤ 8) (hat : at_ ≤ 100000) (hll : l.length ≤ 100000) (hb : ∀ x ∈ l, 0 ≤ x ∧ x < 256) : f76_1 20000 (at_ : Int) (w : Int) l K = K (gt at_ w l).1 (gt at_ w l).2 := by
  rw [f76_1, f74_1, ct (by omega), decide_eq_true (show (w : Int) ≤ 8 by omega), Bool.not_true, cond_false, cf (by omega), gt]
  by_cases h2 : (at_ : Int) > ((l.length : Nat) : Int)
  · rw [ct h2, if_neg (by omega)]
  · rw [cf h2, w64 (by omega) (by omega)]
    by_cases h3 : ((l.length : Nat) : Int) - (at_ : Int) < (w : Int)
    · rw [ct h3, if_neg (by omega)]
    · rw [cf h3, w64 (by omega) (by omega), ct (by omega), if_pos (by omega), show ((at_ : Int) + (w : Int) - (at_ : Int)).toNat = w by omega, show 0 + ((at_ : Int)).toNat = at_ by omega]
      exact getPl (K := fun x8 => K x8 0) hw (by omega) hb w 0 20000 0 (by omega) (by omega) (by simp)

end Go.Proofs.YtlgopekjjkdkiaaDoor.X
end

section
/- Numbers of eight bytes; reading them. -/
namespace Go.Proofs.YtlgopekjjkdkiaaDoor.X
open Go Go.Proofs.YtlgopekjjkdkiaaDoor.Ev
set_option linter.unusedSectionVars false
variable [FZ]
set_option linter.unusedVariables false
set_option linter.unusedSimpArgs false

theorem bnf {a b : Int} (h : a = b) : (a != b) = false := by simp [h]
theorem bnt {a b : Int} (h : a ≠ b) : (a != b) = true := by simp [h]

/-! ### Numbers of eight bytes -/

def b8 (n : Int) : List Int := [IntKind.u8.wrap (ishr .u64 n 56), IntKind.u8.wrap (ishr .u64 n 48), IntKind.u8.wrap (ishr .u64 n 40), IntKind.u8.wrap (ishr .u64 n 32), IntKind.u8.wrap (ishr .u64 n 24), IntKind.u8.wrap (ishr .u64 n 16), IntKind.u8.wrap (ishr .u64 n 8), IntKind.u8.wrap (ishr .u64 n 0)]
theorem put8 {β : Type} {n : Int} {K : List Int → Option β} : f55_1 20000 8 n [] K = K (b8 n) := by kernel_rfl
theorem b8_r (n : Int) : ∀ x ∈ b8 n, 0 ≤ x ∧ x < 256 := by
  intro x hx
  simp only [b8, List.mem_cons, List.not_mem_nil, or_false] at hx
  rcases hx with rfl | rfl | rfl | rfl | rfl | rfl | rfl | rfl <;> (rw [wu8m]; omega)

theorem shrN {n : Int} (h : 0 ≤ n) : ishr .u64 n 56 = n / 72057594037927936 ∧ ishr .u64 n 48 = n / 281474976710656 ∧ ishr .u64 n 40 = n / 1099511627776 ∧ ishr .u64 n 32 = n / 4294967296 ∧ ishr .u64 n 24 = n / 16777216 ∧ ishr .u64 n 16 = n / 65536 ∧ ishr .u64 n 8 = n / 256 ∧ ishr .u64 n 0 = n := by
  have e : ∀ (s : Int) (d : Int), (2 : Int) ^ (min s.toNat IntKind.u64.bits) = d → 0 < d → ishr .u64 n s = n / d := fun s d h1 h2 => by
    rw [ishr, h1, Int.fdiv_eq_ediv_of_nonneg _ (by omega)]
  refine ⟨e 56 _ (by decide) (by decide), e 48 _ (by decide) (by decide), e 40 _ (by decide) (by decide), e 32 _ (by decide) (by decide), e 24 _ (by decide) (by decide), e 16 _ (by decide) (by decide), e 8 _ (by decide) (by decide), ?_⟩
  rw [e 0 1 (by decide) (by decide)]; omega

theorem num8 {n : Int} (h : 0 ≤ n ∧ n < 18446744073709551616) : num 0 (b8 n) = n := by
  obtain ⟨e1, e2, e3, e4, e5, e6, e7, e8⟩ := shrN h.1
  simp only [num, b8, List.foldl_cons, List.foldl_nil, wu8m, e1, e2, e3, e4, e5, e6, e7, e8]
  omega

theorem toInts_ofInts {l : List Int} (h : ∀ x ∈ l, 0 ≤ x ∧ x < 256) : toInts (ofInts l) = l := by
  rw [toInts_D, D_ofInts, List.map_map]
  conv => rhs; rw [← List.map_id l]
  apply List.map_congr_left
  intro x hx
  have := h x hx
  simp only [Function.comp, id, UInt8.toNat_ofNat']
  omega

theorem toInts_r (s : ByteArray) : ∀ x ∈ toInts s, 0 ≤ x ∧ x < 256 := by
  intro x hx
  rw [toInts_D] at hx
  obtain ⟨c, _, rfl⟩ := List.mem_map.1 hx
  have := c.toNat_lt
  omega

theorem b8_size (n : Int) : (ofInts (b8 n)).size = 8 := by rw [D_size, D_ofInts]; rfl
theorem app_size (s t : ByteArray) : (s ++ t).size = s.size + t.size := by rw [D_size, D_app, List.length_append, ← D_size, ← D_size]
theorem toInts_size (s : ByteArray) : (toInts s).length = s.size := by rw [toInts_D, List.length_map, ← D_size]

/-- The next number of a reader: what it is, why there is none, what is left. -/
def nm (w : Nat) (e : Int) (l : List Int) : Int × Int × List Int := if e ≠ 0 then (0, e, l) else if w ≤ l.length then (num 0 (l.take w), 0, l.drop w) else (0, 7, l)

theorem numC {β : Type} {w : Nat} {e : Int} {l : List Int} {K : Int → Int → List Int → Option β} (h1 : 1 ≤ w) (hw : w ≤ 8) (hll : l.length ≤ 100000) (hb : ∀ x ∈ l, 0 ≤ x ∧ x < 256) :
    f58_1 20000 (w : Int) e l K = K (nm w e l).1 (nm w e l).2.1 (nm w e l).2.2 := by
  have hg := fun K => getP (β := β) (at_ := 0) (w := w) (l := l) (K := K) h1 hw (by omega) hll hb
  rw [f58_1, nm]
  by_cases he : e = 0
  · subst he
    rw [show ((0 : Int) != 0) = false from rfl, cond_false, if_neg (by simp)]
    refine (hg _).trans ?_
    rw [gt]
    by_cases h2 : w ≤ l.length
    · rw [if_pos (by omega), if_pos h2, List.drop_zero]
      show cond ((0 : Int) != 0) _ _ = _
      rw [bnf rfl, cond_false, ct ⟨by omega, by omega, by omega⟩, show 0 + (w : Int).toNat = w by omega, List.take_of_length_le (l := l.drop w) (by simp)]
    · rw [if_neg (by omega), if_neg h2]
      rfl
  · rw [bnt he, cond_true, if_pos he]

theorem opn_size (k : Int) (s : ByteArray) : (opn k s).1.size ≤ 58 := by
  unfold opn
  split
  · show ByteArray.empty.size ≤ 58; decide
  · rename_i h1
    split
    · show ByteArray.empty.size ≤ 58; decide
    · obtain ⟨q1, q2, _⟩ := kd_size (Classical.not_not.1 h1)
      have := byt_r s 1
      show (s.extract 2 (2 + (byt s 1).toNat)).size ≤ 58
      rw [D_size, D_ext]; simp; omega

theorem big60 : 60 ≤ maxLen := by decide

theorem cond_ff' {α : Sort _} {a b : α} : cond (!true) a b = b := rfl
theorem Z64_b0 : byt Z64 0 = 0 := by rw [byt, getD_D, Z64_D]; rfl

theorem opn_zero (k : Int) : (opn k Z64).2 ≠ 0 := by
  unfold opn
  split
  · assumption
  · rename_i h
    obtain ⟨_, _, _, _, q5, _⟩ := kd_size (Classical.not_not.1 h)
    rw [Z64_b0] at q5; omega

end Go.Proofs.YtlgopekjjkdkiaaDoor.X
end

section
/- Numbers as bytes and back: what bytes tell of them. -/
namespace Go.Proofs.YtlgopekjjkdkiaaDoor.X
open Go Go.Proofs.YtlgopekjjkdkiaaDoor.Ev
set_option linter.unusedSectionVars false
variable [FZ]
set_option linter.unusedVariables false
set_option linter.unusedSimpArgs false

abbrev U64 (n : Int) : Prop := 0 ≤ n ∧ n < 18446744073709551616
abbrev U32 (n : Int) : Prop := 0 ≤ n ∧ n < 4294967296
abbrev byts (l : List Int) : Prop := ∀ x ∈ l, 0 ≤ x ∧ x < 256

theorem tiA (s t : ByteArray) : toInts (s ++ t) = toInts s ++ toInts t := by rw [toInts_D, toInts_D, toInts_D, D_app, List.map_append]
theorem oiA (l r : List Int) : ofInts (l ++ r) = ofInts l ++ ofInts r := by
  apply extB
  rw [D_app, D_ofInts, D_ofInts, D_ofInts, List.map_append]
theorem oi_size (l : List Int) : (ofInts l).size = l.length := by rw [D_size, D_ofInts, List.length_map]
theorem app_r {l r : List Int} (hl : byts l) (hr : byts r) : byts (l ++ r) := fun x hx => by
  rcases List.mem_append.1 hx with hx | hx
  · exact hl x hx
  · exact hr x hx
theorem drop_r {l : List Int} (k : Nat) (h : byts l) : byts (l.drop k) := fun x hx => h x (List.mem_of_mem_drop hx)
theorem take_r {l : List Int} (k : Nat) (h : byts l) : byts (l.take k) := fun x hx => h x (List.mem_of_mem_take hx)
theorem b4_r (n : Int) : byts (b4 n) := by
  intro x hx
  simp only [b4, List.mem_cons, List.not_mem_nil, or_false] at hx
  rcases hx with rfl | rfl | rfl | rfl <;> (rw [wu8m]; omega)
theorem num_b4 {n : Int} (h : U32 n) : num 0 (b4 n) = n := by
  obtain ⟨_, _, _, _, e5, e6, e7, e8⟩ := shrN h.1
  simp only [num, b4, List.foldl_cons, List.foldl_nil, wu8m, e5, e6, e7, e8]; omega
theorem toInts_ext (s : ByteArray) (i j : Nat) : toInts (s.extract i j) = ((toInts s).drop i).take (j - i) := by
  rw [toInts_D, D_ext, toInts_D, List.map_take, List.map_drop]

theorem ofInts_toInts (s : ByteArray) : ofInts (toInts s) = s := by
  apply extB
  rw [D_ofInts, toInts_D, List.map_map]
  conv => rhs; rw [← List.map_id (D s)]
  apply List.map_congr_left
  intro c _
  simp [Function.comp]

theorem num4_inv {l : List Int} (h : l.length = 4) (hb : byts l) : b4 (num 0 l) = l ∧ U32 (num 0 l) := by
  match l, h with
  | [w, x, y, z], _ =>
    have hw := hb w (by simp)
    have hx := hb x (by simp)
    have hy := hb y (by simp)
    have hz := hb z (by simp)
    have e : num 0 [w, x, y, z] = ((w * 256 + x) * 256 + y) * 256 + z := by simp [num]
    rw [e]
    have hr : U32 (((w * 256 + x) * 256 + y) * 256 + z) := by omega
    obtain ⟨_, _, _, _, e5, e6, e7, e8⟩ := shrN hr.1
    refine ⟨?_, hr⟩
    simp only [b4, e5, e6, e7, e8, wu8m]
    congr 1
    · omega
    · congr 1
      · omega
      · congr 1
        · omega
        · congr 1; omega

theorem num8_inv {l : List Int} (h : l.length = 8) (hb : byts l) : b8 (num 0 l) = l ∧ U64 (num 0 l) := by
  match l, h with
  | [a, b, c, d, w, x, y, z], _ =>
    have ha := hb a (by simp)
    have hb' := hb b (by simp)
    have hc := hb c (by simp)
    have hd := hb d (by simp)
    have hw := hb w (by simp)
    have hx := hb x (by simp)
    have hy := hb y (by simp)
    have hz := hb z (by simp)
    obtain ⟨n, hn⟩ : ∃ n, n = num 0 [a, b, c, d, w, x, y, z] := ⟨_, rfl⟩
    have e : n = a * 72057594037927936 + b * 281474976710656 + c * 1099511627776 + d * 4294967296 + w * 16777216 + x * 65536 + y * 256 + z := by
      rw [hn]; simp only [num, List.foldl_cons, List.foldl_nil]; omega
    rw [← hn]
    clear hn
    have hr : U64 n := by omega
    obtain ⟨e1, e2, e3, e4, e5, e6, e7, e8⟩ := shrN hr.1
    have f1 : n / 72057594037927936 % 256 = a := by omega
    have f2 : n / 281474976710656 % 256 = b := by omega
    have f3 : n / 1099511627776 % 256 = c := by omega
    have f4 : n / 4294967296 % 256 = d := by omega
    have f5 : n / 16777216 % 256 = w := by omega
    have f6 : n / 65536 % 256 = x := by omega
    have f7 : n / 256 % 256 = y := by omega
    have f8 : n % 256 = z := by omega
    refine ⟨?_, hr⟩
    simp only [b8, e1, e2, e3, e4, e5, e6, e7, e8, wu8m, f1, f2, f3, f4, f5, f6, f7, f8]

/-- Four bytes are a number's, or eight. -/
theorem is4 {s : ByteArray} {k : Int} (hs : s.size = 4) (hk : U32 k) : s = ofInts (b4 k) ↔ num 0 (toInts s) = k := by
  constructor
  · rintro rfl
    rw [toInts_ofInts (b4_r k), num_b4 hk]
  · intro h
    have := (num4_inv (l := toInts s) (by rw [toInts_size]; exact hs) (toInts_r s)).1
    rw [h] at this
    rw [this, ofInts_toInts]
theorem is8 {s : ByteArray} {k : Int} (hs : s.size = 8) (hk : U64 k) : s = ofInts (b8 k) ↔ num 0 (toInts s) = k := by
  constructor
  · rintro rfl
    rw [toInts_ofInts (b8_r k), num8 hk]
  · intro h
    have := (num8_inv (l := toInts s) (by rw [toInts_size]; exact hs) (toInts_r s)).1
    rw [h] at this
    rw [this, ofInts_toInts]

end Go.Proofs.YtlgopekjjkdkiaaDoor.X
end

section
/- Trees' shapes: levels and numbers of nodes; any seat. -/
namespace Go.Proofs.YtlgopekjjkdkiaaDoor.X
open Go Go.Proofs.YtlgopekjjkdkiaaDoor.Ev
set_option linter.unusedSectionVars false
variable [FZ]
set_option linter.unusedVariables false
set_option linter.unusedSimpArgs false

def lv : Nat → Int → Int → List Int
  | 0, _, _ => []
  | k + 1, n, f => if n > 1 then ((n + f - 1) / f) :: lv k ((n + f - 1) / f) f else []

theorem step_eq {n f : Int} (hf : 2 ≤ f ∧ f ≤ 4) (h1 : 1 < n) (h2 : n ≤ 128) :
    IntKind.i64.wrap ((IntKind.i64.wrap ((IntKind.i64.wrap (n + f)) - 1)).tdiv f) = (n + f - 1) / f ∧ 1 ≤ (n + f - 1) / f ∧ (n + f - 1) / f < n := by
  rw [w64 (x := n + f) (by omega) (by omega), w64 (x := n + f - 1) (by omega) (by omega), Int.tdiv_eq_ediv_of_nonneg (by omega)]
  have : f = 2 ∨ f = 3 ∨ f = 4 := by omega
  rcases this with rfl | rfl | rfl
  · rw [w64 (by omega) (by omega)]; omega
  · rw [w64 (by omega) (by omega)]; omega
  · rw [w64 (by omega) (by omega)]; omega

theorem lev48 {β : Type} {F : Nat} {x f c u : Int} (hf : 2 ≤ f ∧ f ≤ 4) {K : List Int → Option β} : ∀ (k : Nat) (n : Int) (acc : List Int), 1 ≤ n → n ≤ 128 → n < k → (acc.length : Int) + n ≤ 2000 →
    f67_1_l5 F x f c u K k n acc = K (acc ++ lv k n f)
  | 0, n, acc, h1, h2, h3, h4 => by omega
  | k + 1, n, acc, h1, h2, h3, h4 => by
    simp only [f67_1_l5, lv]
    by_cases hn : n > 1
    · obtain ⟨e, g1, g2⟩ := step_eq hf hn h2
      rw [e]
      have h0 : ¬ f = 0 := by omega
      have hl : (acc.length + 1) * 8 ≤ 70368744177664 := by omega
      simp only [hn, h0, hl, decide_true, decide_false, cond_true, cond_false, if_true]
      rw [lev48 hf k _ _ g1 (by omega) (by omega) (by simp; omega)]
      simp
    · simp [hn]

theorem lev49 {β : Type} {F : Nat} {x f c u : Int} (hf : 2 ≤ f ∧ f ≤ 4) {K : List Int → Option β} : ∀ (k : Nat) (n : Int) (acc : List Int), 1 ≤ n → n ≤ 128 → n < k → (acc.length : Int) + n ≤ 2000 →
    f44_1_l5 F x f c u K k n acc = K (acc ++ lv k n f)
  | 0, n, acc, h1, h2, h3, h4 => by omega
  | k + 1, n, acc, h1, h2, h3, h4 => by
    simp only [f44_1_l5, lv]
    by_cases hn : n > 1
    · obtain ⟨e, g1, g2⟩ := step_eq hf hn h2
      rw [e]
      have h0 : ¬ f = 0 := by omega
      have hl : (acc.length + 1) * 8 ≤ 70368744177664 := by omega
      simp only [hn, h0, hl, decide_true, decide_false, cond_true, cond_false, if_true]
      rw [lev49 hf k _ _ g1 (by omega) (by omega) (by simp; omega)]
      simp
    · simp [hn]

theorem lv_ok {f : Int} (hf : 2 ≤ f ∧ f ≤ 4) : ∀ (k : Nat) (n : Int), 1 ≤ n → n ≤ 128 → ((lv k n f).length : Int) < n ∧ ∀ y ∈ lv k n f, 1 ≤ y ∧ y ≤ 128
  | 0, n, h1, h2 => by simp [lv]; omega
  | k + 1, n, h1, h2 => by
    simp only [lv]
    by_cases hn : n > 1
    · obtain ⟨e, g1, g2⟩ := step_eq hf hn h2
      obtain ⟨q1, q2⟩ := lv_ok hf k _ g1 (by omega)
      rw [if_pos hn]
      refine ⟨by simp; omega, fun y hy => ?_⟩
      rcases List.mem_cons.1 hy with rfl | hy
      · omega
      · exact q2 y hy
    · rw [if_neg hn]; simp; omega

/-- The geometry can be. -/
def rt (n f c u : Int) : Prop := (1 ≤ n ∧ n ≤ 128) ∧ (2 ≤ f ∧ f ≤ 4) ∧ (0 ≤ c ∧ c ≤ 64) ∧ (1 ≤ u ∧ u ≤ 320)
instance (n f c u : Int) : Decidable (rt n f c u) := by unfold rt; infer_instance

theorem cnd {β : Type} {p q : Prop} [Decidable p] [Decidable q] {K : Bool → Option β} : cond (decide p) (K (decide q)) (K false) = K (decide (p ∧ q)) := by
  by_cases h : p <;> simp [h]

theorem within87 {β : Type} {F : Nat} {a b c : Int} {K : Bool → Option β} : f45_1 F a b c K = K (decide (a ≥ b ∧ a ≤ c)) := by
  simp only [f45_1, cnd]

theorem right46 {β : Type} {F : Nat} {n f c u : Int} {K : Bool → Option β} : f27_1 F n f c u K = K (decide (rt n f c u)) := by
  simp only [f27_1, within87, cnd]
  congr 1

theorem right47 {β : Type} {F : Nat} {n f c u : Int} {K : Bool → Option β} : f5_1 F n f c u K = K (decide (rt n f c u)) := by
  simp only [f5_1, cnd]
  congr 1
  exact decide_eq_decide.2 (by unfold rt; omega)

def levels (n f c u : Int) : List Int := if rt n f c u then n :: lv 20000 n f else []

theorem levels48 {β : Type} {n f c u : Int} {K : List Int → Option β} : f67_1 20000 n f c u K = K (levels n f c u) := by
  simp only [f67_1, right46, levels]
  by_cases h : rt n f c u
  · simp only [h, decide_true, Bool.not_true, cond_false, if_true]
    rw [lev48 h.2.1 20000 n [n] h.1.1 h.1.2 (by have := h.1.2; omega) (by have := h.1.2; simp; omega)]
    rfl
  · simp [h]

theorem levels49 {β : Type} {n f c u : Int} {K : List Int → Option β} : f44_1 20000 n f c u K = K (levels n f c u) := by
  simp only [f44_1, right47, levels]
  by_cases h : rt n f c u
  · simp only [h, decide_true, Bool.not_true, cond_false, if_true]
    rw [lev49 h.2.1 20000 n [n] h.1.1 h.1.2 (by have := h.1.2; omega) (by have := h.1.2; simp; omega)]
    rfl
  · simp [h]

theorem levels_ok (n f c u : Int) : (levels n f c u).length ≤ 128 ∧ ∀ y ∈ levels n f c u, 1 ≤ y ∧ y ≤ 128 := by
  unfold levels
  split
  · rename_i h
    obtain ⟨q1, q2⟩ := lv_ok h.2.1 20000 n h.1.1 h.1.2
    have := h.1
    refine ⟨by simp; omega, fun y hy => ?_⟩
    rcases List.mem_cons.1 hy with rfl | hy
    · omega
    · exact q2 y hy
  · simp

def sumI : List Int → Int
  | [] => 0
  | x :: r => x + sumI r

theorem sumI_ok : ∀ (l : List Int), (∀ y ∈ l, 1 ≤ y ∧ y ≤ 128) → (l.length : Int) ≤ sumI l ∧ sumI l ≤ 128 * l.length
  | [], _ => by simp [sumI]
  | x :: r, h => by
    obtain ⟨q1, q2⟩ := sumI_ok r fun y hy => h y (by simp [hy])
    have := h x (by simp)
    simp only [sumI, List.length_cons]
    omega

theorem sum50 {β : Type} {F : Nat} {K : Int → Option β} (l : List Int) (hl : l.length ≤ 128) (hy : ∀ y ∈ l, 1 ≤ y ∧ y ≤ 128) : ∀ (r : List Int) (i : Nat) (k : Nat) (s : Int), l.drop i = r → i ≤ l.length → r.length < k → 0 ≤ s → s ≤ 128 * i →
    f51_1_l3 F ((l.length : Nat) : Int) l K k s (i : Int) = K (s + sumI r)
  | [], i, k, s, hd, hi, hk, h0, h1 => by
    cases k with
    | zero => omega
    | succ k =>
      have : i = l.length := by
        have := congrArg List.length hd
        simp at this; omega
      subst this
      simp [f51_1_l3, sumI]
  | x :: r, i, k, s, hd, hi, hk, h0, h1 => by
    cases k with
    | zero => omega
    | succ k =>
      have hlen : l.length - i = r.length + 1 := by
        have := congrArg List.length hd
        simpa using this
      have hlt : i < l.length := by omega
      have hx : l[i]? = some x := by
        have := congrArg (·[0]?) hd
        simpa using this
      have hm := hy x (List.mem_of_getElem? hx)
      have hdr : l.drop (i + 1) = r := by
        rw [← List.drop_drop, hd]; rfl
      simp only [f51_1_l3]
      have e1 : decide ((i : Int) < ((l.length : Nat) : Int)) = true := by simp; omega
      have e2 : decide ((0 : Int) ≤ (i : Int) ∧ (i : Int) < ((l.length : Nat) : Int)) = true := by simp; omega
      have e3 : decide (0 + (i : Int).toNat < l.length) = true := by simp; omega
      have e4 : l.getD (0 + (i : Int).toNat) 0 = x := by
        rw [List.getD_eq_getElem?_getD]; simp [hx]
      rw [e1, e2, e3, e4, cond_true, cond_true, cond_true, w64 (by omega) (by omega), w64 (by omega) (by omega)]
      have := sum50 (F := F) (K := K) l hl hy r (i + 1) k (s + x) hdr (by omega) (by simpa using hk) (by omega) (by omega)
      rw [show ((i : Int) + 1) = ((i + 1 : Nat) : Int) by omega, this]
      congr 1
      simp only [sumI]; omega

theorem sum51 {β : Type} {F : Nat} {K : Int → Option β} (l : List Int) (hl : l.length ≤ 128) (hy : ∀ y ∈ l, 1 ≤ y ∧ y ≤ 128) : ∀ (r : List Int) (i : Nat) (k : Nat) (s : Int), l.drop i = r → i ≤ l.length → r.length < k → 0 ≤ s → s ≤ 128 * i →
    f26_1_l4 F l K k s (i : Int) = K (s + sumI r)
  | [], i, k, s, hd, hi, hk, h0, h1 => by
    cases k with
    | zero => omega
    | succ k =>
      have : i = l.length := by
        have := congrArg List.length hd
        simp at this; omega
      subst this
      simp [f26_1_l4, sumI]
  | x :: r, i, k, s, hd, hi, hk, h0, h1 => by
    cases k with
    | zero => omega
    | succ k =>
      have hlen : l.length - i = r.length + 1 := by
        have := congrArg List.length hd
        simpa using this
      have hlt : i < l.length := by omega
      have hx : l[i]? = some x := by
        have := congrArg (·[0]?) hd
        simpa using this
      have hm := hy x (List.mem_of_getElem? hx)
      have hdr : l.drop (i + 1) = r := by
        rw [← List.drop_drop, hd]; rfl
      simp only [f26_1_l4]
      have e1 : decide ((i : Int) < ((l.length : Nat) : Int)) = true := by simp; omega
      have e2 : decide ((0 : Int) ≤ (i : Int) ∧ (i : Int) < ((l.length : Nat) : Int)) = true := by simp; omega
      have e3 : decide (0 + (i : Int).toNat < l.length) = true := by simp; omega
      have e4 : l.getD (0 + (i : Int).toNat) 0 = x := by
        rw [List.getD_eq_getElem?_getD]; simp [hx]
      rw [e1, e2, e3, e4, cond_true, cond_true, cond_true, w64 (by omega) (by omega), w64 (by omega) (by omega)]
      have := sum51 (F := F) (K := K) l hl hy r (i + 1) k (s + x) hdr (by omega) (by simpa using hk) (by omega) (by omega)
      rw [show ((i : Int) + 1) = ((i + 1 : Nat) : Int) by omega, this]
      congr 1
      simp only [sumI]; omega

def nodes (n f c u : Int) : Int := sumI (levels n f c u)

theorem nodes_ok (n f c u : Int) : 0 ≤ nodes n f c u ∧ nodes n f c u ≤ 16384 ∧ (rt n f c u → 1 ≤ nodes n f c u) ∧ (¬ rt n f c u → nodes n f c u = 0) := by
  obtain ⟨h1, h2⟩ := levels_ok n f c u
  obtain ⟨h3, h4⟩ := sumI_ok _ h2
  unfold nodes
  refine ⟨by omega, by omega, fun h => ?_, fun h => by simp [levels, h, sumI]⟩
  have : 1 ≤ (levels n f c u).length := by simp [levels, h]
  omega

theorem nodes50 {β : Type} {n f c u : Int} {K : Int → Option β} : f51_1 20000 n f c u K = K (nodes n f c u) := by
  obtain ⟨h1, h2⟩ := levels_ok n f c u
  simp only [f51_1, levels48]
  have := sum50 (F := 20000) (K := K) (levels n f c u) h1 h2 _ 0 20000 0 rfl (by omega) (by simp; omega) (by omega) (by omega)
  simp only [List.drop_zero, Int.zero_add] at this
  exact this

theorem nodes51 {β : Type} {n f c u : Int} {K : Int → Option β} : f26_1 20000 n f c u K = K (nodes n f c u) := by
  obtain ⟨h1, h2⟩ := levels_ok n f c u
  simp only [f26_1, levels49]
  have := sum51 (F := 20000) (K := K) (levels n f c u) h1 h2 _ 0 20000 0 rfl (by omega) (by simp; omega) (by omega) (by omega)
  simp only [List.drop_zero, Int.zero_add] at this
  exact this


end Go.Proofs.YtlgopekjjkdkiaaDoor.X
end

section
namespace Go.Proofs.YtlgopekjjkdkiaaDoor.X
open Go Go.Proofs.YtlgopekjjkdkiaaDoor.Ev Go.Proofs
set_option linter.unusedVariables false
set_option linter.unusedSectionVars false
/-! geom.Data -/
noncomputable def f28_1 {β : Type} (F : Nat) (a1 : Int) (a2 : Int) (a3 : Int) (a4 : Int) (a5 : Int) (K0 : Int → Option β) : Option β := f27_1 F a1 a2 a3 a4 (fun x1 => cond (!x1) (K0 (-1)) (f45_1 F a5 0 (IntKind.i64.wrap (a1 - 1)) (fun x2 => cond (!x2) (K0 (-1)) (K0 (IntKind.i64.wrap (6 + a5)))) )) 
variable [FZ]
def sh28_1 : Sh := ⟨[.agg [.int .i64, .int .i64, .int .i64, .int .i64], .lf (.int .i64)], []⟩
abbrev Y28_1 := Int → Int → Int → Int → Int → (Int → Option Res) → Option Res
noncomputable def A28_1 (g : Y28_1) (d : sh28_1.den) (K : KF) : Option Res := g d.1.1.1 d.1.1.2.1 d.1.1.2.2.1 d.1.1.2.2.2.1 d.1.2.1 (fun (y0 : Int) => K [.lf (.int .i64 y0)] [])
noncomputable def S28_1 (F : Nat) (o : Summ) : Summ := mkS sh28_1 (fun d K => A28_1 (f28_1 F) d K) o
noncomputable def code28 : Code := bodyOf Tryd.f28
theorem scopes28 : scopesOf code28 = [] := by kernel_rfl
theorem ranges28 : rangesOf code28 = [] := by kernel_rfl
theorem loops28 : loopsOf code28 = [] := by kernel_rfl
theorem enter28 : ∀ args w, (callFunc 28 args).run Tryd.prog w = .ok (.enter 28 args) w := enter_of (fn := Tryd.f28) (by kernel_rfl) (by kernel_rfl) (by kernel_rfl)
noncomputable def T28_1 (F : Nat) : FuncId → Option Summ := tab [(27, (S27_1 F noS)), (45, (S45_1 F noS))]
noncomputable def TB28_1 (c27_1 : Y27_1) (c45_1 : Y45_1) : FuncId → Option Summ := tab [(27, (mkS sh27_1 (fun d K => A27_1 c27_1 d K) noS)), (45, (mkS sh45_1 (fun d K => A45_1 c45_1 d K) noS))]
noncomputable def LT28_1 (F : Nat) : Nat → Option LoopS := ltab []
theorem E28_1g (F : Nat) (c27_1 : Y27_1) (c45_1 : Y45_1)   (d : sh28_1.den) (K : KF) : evBody Tryd.prog (TB28_1 c27_1 c45_1) (xw []) 18 0 (ltab []) [] code28 Tryd.f28.results.toList (encT sh28_1.vs d.1) (encH sh28_1.h d.2) K = A28_1 (fun (a1 : Int) (a2 : Int) (a3 : Int) (a4 : Int) (a5 : Int) (K0 : (Int → Option Res)) => c27_1 a1 a2 a3 a4 (fun x1 => cond (!x1) (K0 (-1)) (c45_1 a5 0 (IntKind.i64.wrap (a1 - 1)) (fun x2 => cond (!x2) (K0 (-1)) (K0 (IntKind.i64.wrap (6 + a5)))) )) ) d K := by kernel_rfl
theorem E28_1 (F : Nat) (d : sh28_1.den) (K : KF) : evBody Tryd.prog (T28_1 F) (xw []) 18 0 (LT28_1 F) [] code28 Tryd.f28.results.toList (encT sh28_1.vs d.1) (encH sh28_1.h d.2) K = A28_1 (f28_1 F) d K := Eq.mp (by kernel_rfl) (E28_1g F (f27_1 F) (f45_1 F)   d K)
theorem S28_1_ok (F : Nat) (o : Summ) (ho : SoundFn Tryd.prog 28 o) : SoundFn Tryd.prog 28 (S28_1 F o) :=
  soundFn_of (fn := Tryd.f28) (c := code28) rfl rfl (by kernel_rfl) (tab_cons (S27_1_ok F _ (noS_sound enter27)) (tab_cons (S45_1_ok F _ (noS_sound enter45)) tab_nil)) (by kernel_rfl) (by kernel_rfl) ho (by rw [loops28]; exact loopsOK_nil) (by rw [scopes28]; exact scopesOK_nil) (by rw [ranges28]; exact rangesOK_nil) (E28_1 F)
end Go.Proofs.YtlgopekjjkdkiaaDoor.X
end

section
/- Places on disks. -/
namespace Go.Proofs.YtlgopekjjkdkiaaDoor.X
open Go Go.Proofs.YtlgopekjjkdkiaaDoor.Ev
set_option linter.unusedSectionVars false
variable [FZ]
set_option linter.unusedVariables false
set_option linter.unusedSimpArgs false

/-- The place of a data sector; of a sector of an area of m. -/
def dat (n f c u i : Int) : Int := if rt n f c u ∧ 0 ≤ i ∧ i < n then 6 + i else -1
def are (n f c u m k : Int) : Int := if rt n f c u ∧ 0 ≤ k ∧ k < m then 6 + n + nodes n f c u + k else -1

theorem dataP {β : Type} {n f c u i : Int} {K : Int → Option β} : f28_1 20000 n f c u i K = K (dat n f c u i) := by
  rw [f28_1, right46, dat]
  by_cases h : rt n f c u
  · have hn := h.1
    rw [decide_eq_true h, Bool.not_true, cond_false, within87, w64 (x := n - 1) (by omega) (by omega)]
    by_cases h1 : 0 ≤ i ∧ i < n
    · rw [decide_eq_true (show i ≥ 0 ∧ i ≤ n - 1 by omega), Bool.not_true, cond_false, if_pos ⟨h, h1⟩, w64 (by omega) (by omega)]
    · rw [decide_eq_false (show ¬ (i ≥ 0 ∧ i ≤ n - 1) by omega), Bool.not_false, cond_true, if_neg (fun hh => h1 hh.2)]
  · rw [decide_eq_false h, Bool.not_false, cond_true, if_neg (fun hh => h hh.1)]

theorem areaP {β : Type} {n f c u s k : Int} (hs : s = 0 ∨ s = 1) {K : Int → Option β} : f31_1 20000 n f c u s k K = K (are n f c u (if s = 0 then 2 * c else 2 * u) k) := by
  have hno := nodes_ok n f c u
  have key : ∀ m : Int, 0 ≤ m → m ≤ 640 → cond (!(decide (rt n f c u))) (K (-1)) (f45_1 20000 k 0 (IntKind.i64.wrap (m - 1)) (fun x3 => cond (!x3) (K (-1)) (f51_1 20000 n f c u (fun x4 => K (IntKind.i64.wrap ((IntKind.i64.wrap ((IntKind.i64.wrap (6 + n)) + x4)) + k)))))) = K (are n f c u m k) := by
    intro m h0 h1
    rw [are]
    by_cases h : rt n f c u
    · have hn := h.1
      rw [decide_eq_true h, Bool.not_true, cond_false, within87, w64 (x := m - 1) (by omega) (by omega)]
      by_cases h2 : 0 ≤ k ∧ k < m
      · rw [decide_eq_true (show k ≥ 0 ∧ k ≤ m - 1 by omega), Bool.not_true, cond_false, if_pos ⟨h, h2⟩, nodes50, w64 (x := 6 + n) (by omega) (by omega), w64 (x := 6 + n + nodes n f c u) (by omega) (by omega), w64 (by omega) (by omega)]
      · rw [decide_eq_false (show ¬ (k ≥ 0 ∧ k ≤ m - 1) by omega), Bool.not_false, cond_true, if_neg (fun hh => h2 hh.2)]
    · rw [decide_eq_false h, Bool.not_false, cond_true, if_neg (fun hh => h hh.1)]
  have no : ∀ m m' : Int, ¬ rt n f c u → are n f c u m k = are n f c u m' k := fun m m' h => by rw [are, are, if_neg (fun hh => h hh.1), if_neg (fun hh => h hh.1)]
  rw [f31_1, f50_1]
  rcases hs with rfl | rfl
  · rw [show ((0 : Int) == 0) = true from rfl, cond_true, right46, if_pos rfl]
    by_cases h : rt n f c u
    · rw [w64 (x := 2 * c) (by have := h.2.2.1; omega) (by have := h.2.2.1; omega)]
      exact key _ (by have := h.2.2.1; omega) (by have := h.2.2.1; omega)
    · rw [no _ 0 h, ← key 0 (by omega) (by omega), decide_eq_false h]; rfl
  · rw [show ((1 : Int) == 0) = false from rfl, cond_false, show ((1 : Int) == 1) = true from rfl, cond_true, right46, if_neg (by omega)]
    by_cases h : rt n f c u
    · rw [w64 (x := 2 * u) (by have := h.2.2.2; omega) (by have := h.2.2.2; omega)]
      exact key _ (by have := h.2.2.2; omega) (by have := h.2.2.2; omega)
    · rw [no _ 0 h, ← key 0 (by omega) (by omega), decide_eq_false h]; rfl

end Go.Proofs.YtlgopekjjkdkiaaDoor.X
end

section
namespace Go.Proofs.YtlgopekjjkdkiaaDoor.X
open Go Go.Proofs.YtlgopekjjkdkiaaDoor.Ev Go.Proofs
set_option linter.unusedVariables false
set_option linter.unusedSectionVars false
/-! cow.write -/
noncomputable def f30_1 {β : Type} (F : Nat) (a1 : Int) (a2 : ByteArray) (a3 : Int) (a4 : Bool) (a5 : Int) (a6 : List ByteArray) (a7 : List (Int × ByteArray)) (K0 : Int → Int → Bool → Int → List ByteArray → List (Int × ByteArray) → Option β) : Option β := f48_1 F a1 a2 a3 a4 a5 a6 a7 (fun x1 x2 x3 x4 x5 => cond (x1 != 0) (K0 x1 x2 x3 x4 a6 x5) (f49_1 F x2 x3 x4 a6 x5 (fun x6 x7 x8 x9 x10 x11 => K0 x6 x7 x8 x9 x10 x11) )) 
variable [FZ]
def sh30_1 : Sh := ⟨[.lf (.ptr 0 0), .lf (.int .i64), .lf (.str)], [some ⟨some false, [.full 1, .full 2, .int .i64, .bool, .int .i64]⟩, some ⟨some false, [.seq .str 0]⟩, some ⟨some false, [.seq (.pair (.int .i64) .str) 0]⟩]⟩
abbrev Y30_1 := Int → ByteArray → Int → Bool → Int → List ByteArray → List (Int × ByteArray) → (Int → Int → Bool → Int → List ByteArray → List (Int × ByteArray) → Option Res) → Option Res
noncomputable def A30_1 (g : Y30_1) (d : sh30_1.den) (K : KF) : Option Res := g d.1.2.1 d.1.2.2.1 d.2.1.2.2.2.1 d.2.1.2.2.2.2.1 d.2.1.2.2.2.2.2.1 d.2.2.1.2.1 d.2.2.2.1.2.1 (fun (y0 : Int) (y1 : Int) (y2 : Bool) (y3 : Int) (y4 : List ByteArray) (y5 : List (Int × ByteArray)) => K [.lf (.int .i64 y0)] [some ⟨false, [.full 1, .full 3, .int .i64 y1, .bool y2, .int .i64 y3]⟩, some ⟨false, [.seq .str 0 y4]⟩, none, some ⟨false, [.seq (.pair (.int .i64) .str) 0 y5]⟩])
noncomputable def S30_1 (F : Nat) (o : Summ) : Summ := mkS sh30_1 (fun d K => A30_1 (f30_1 F) d K) o
noncomputable def code30 : Code := bodyOf Tryd.f30
theorem scopes30 : scopesOf code30 = [] := by kernel_rfl
theorem ranges30 : rangesOf code30 = [] := by kernel_rfl
theorem loops30 : loopsOf code30 = [] := by kernel_rfl
theorem enter30 : ∀ args w, (callFunc 30 args).run Tryd.prog w = .ok (.enter 30 args) w := enter_of (fn := Tryd.f30) (by kernel_rfl) (by kernel_rfl) (by kernel_rfl)
noncomputable def T30_1 (F : Nat) : FuncId → Option Summ := tab [(48, (S48_1 F noS)), (49, (S49_1 F noS))]
noncomputable def TB30_1 (c48_1 : Y48_1) (c49_1 : Y49_1) : FuncId → Option Summ := tab [(48, (mkS sh48_1 (fun d K => A48_1 c48_1 d K) noS)), (49, (mkS sh49_1 (fun d K => A49_1 c49_1 d K) noS))]
noncomputable def LT30_1 (F : Nat) : Nat → Option LoopS := ltab []
theorem E30_1g (F : Nat) (c48_1 : Y48_1) (c49_1 : Y49_1)   (d : sh30_1.den) (K : KF) : evBody Tryd.prog (TB30_1 c48_1 c49_1) (xw []) 17 3 (ltab []) [2] code30 Tryd.f30.results.toList (encT sh30_1.vs d.1) (encH sh30_1.h d.2) K = A30_1 (fun (a1 : Int) (a2 : ByteArray) (a3 : Int) (a4 : Bool) (a5 : Int) (a6 : List ByteArray) (a7 : List (Int × ByteArray)) (K0 : (Int → Int → Bool → Int → List ByteArray → List (Int × ByteArray) → Option Res)) => c48_1 a1 a2 a3 a4 a5 a6 a7 (fun x1 x2 x3 x4 x5 => cond (x1 != 0) (K0 x1 x2 x3 x4 a6 x5) (c49_1 x2 x3 x4 a6 x5 (fun x6 x7 x8 x9 x10 x11 => K0 x6 x7 x8 x9 x10 x11) )) ) d K := by kernel_rfl
theorem E30_1 (F : Nat) (d : sh30_1.den) (K : KF) : evBody Tryd.prog (T30_1 F) (xw []) 17 3 (LT30_1 F) [2] code30 Tryd.f30.results.toList (encT sh30_1.vs d.1) (encH sh30_1.h d.2) K = A30_1 (f30_1 F) d K := Eq.mp (by kernel_rfl) (E30_1g F (f48_1 F) (f49_1 F)   d K)
theorem S30_1_ok (F : Nat) (o : Summ) (ho : SoundFn Tryd.prog 30 o) : SoundFn Tryd.prog 30 (S30_1 F o) :=
  soundFn_of (fn := Tryd.f30) (c := code30) rfl rfl (by kernel_rfl) (tab_cons (S48_1_ok F _ (noS_sound enter48)) (tab_cons (S49_1_ok F _ (noS_sound enter49)) tab_nil)) (by kernel_rfl) (by kernel_rfl) ho (by rw [loops30]; exact loopsOK_nil) (by rw [scopes30]; exact scopesOK_nil) (by rw [ranges30]; exact rangesOK_nil) (E30_1 F)
end Go.Proofs.YtlgopekjjkdkiaaDoor.X
end

section
namespace Go.Proofs.YtlgopekjjkdkiaaDoor.X
open Go Go.Proofs.YtlgopekjjkdkiaaDoor.Ev Go.Proofs
set_option linter.unusedVariables false
set_option linter.unusedSectionVars false
/-! cow.of -/
noncomputable def f33_1 {β : Type} (F : Nat) (a1 : Int) (a2 : Int) (a3 : Int) (a4 : Int) (a5 : ByteArray) (K0 : Int → Int → Int → Option β) : Option β := f54_1 F (toInts a5) (fun x1 => K0 (IntKind.u64.wrap a1) (IntKind.u64.wrap a4) (IntKind.u64.wrap x1)) 
variable [FZ]
def sh33_1 : Sh := ⟨[.lf (.int .i64), .agg [.int .u64, .int .u64, .int .i64, .str]], []⟩
abbrev Y33_1 := Int → Int → Int → Int → ByteArray → (Int → Int → Int → Option Res) → Option Res
noncomputable def A33_1 (g : Y33_1) (d : sh33_1.den) (K : KF) : Option Res := g d.1.1 d.1.2.1.1 d.1.2.1.2.1 d.1.2.1.2.2.1 d.1.2.1.2.2.2.1 (fun (y1 : Int) (y2 : Int) (y3 : Int) => K [.agg [.int .u64 d.1.2.1.2.1, .int .u64 y1, .int .u64 y2, .int .u64 y3]] [])
noncomputable def S33_1 (F : Nat) (o : Summ) : Summ := mkS sh33_1 (fun d K => A33_1 (f33_1 F) d K) o
noncomputable def code33 : Code := bodyOf Tryd.f33
theorem scopes33 : scopesOf code33 = [] := by kernel_rfl
theorem ranges33 : rangesOf code33 = [] := by kernel_rfl
theorem loops33 : loopsOf code33 = [] := by kernel_rfl
theorem enter33 : ∀ args w, (callFunc 33 args).run Tryd.prog w = .ok (.enter 33 args) w := enter_of (fn := Tryd.f33) (by kernel_rfl) (by kernel_rfl) (by kernel_rfl)
noncomputable def T33_1 (F : Nat) : FuncId → Option Summ := tab [(54, (S54_1 F noS))]
noncomputable def TB33_1 (c54_1 : Y54_1) : FuncId → Option Summ := tab [(54, (mkS sh54_1 (fun d K => A54_1 c54_1 d K) noS))]
noncomputable def LT33_1 (F : Nat) : Nat → Option LoopS := ltab []
theorem E33_1g (F : Nat) (c54_1 : Y54_1)   (d : sh33_1.den) (K : KF) : evBody Tryd.prog (TB33_1 c54_1) (xw []) 18 0 (ltab []) [] code33 Tryd.f33.results.toList (encT sh33_1.vs d.1) (encH sh33_1.h d.2) K = A33_1 (fun (a1 : Int) (a2 : Int) (a3 : Int) (a4 : Int) (a5 : ByteArray) (K0 : (Int → Int → Int → Option Res)) => c54_1 (toInts a5) (fun x1 => K0 (IntKind.u64.wrap a1) (IntKind.u64.wrap a4) (IntKind.u64.wrap x1)) ) d K := by kernel_rfl
theorem E33_1 (F : Nat) (d : sh33_1.den) (K : KF) : evBody Tryd.prog (T33_1 F) (xw []) 18 0 (LT33_1 F) [] code33 Tryd.f33.results.toList (encT sh33_1.vs d.1) (encH sh33_1.h d.2) K = A33_1 (f33_1 F) d K := Eq.mp (by kernel_rfl) (E33_1g F (f54_1 F)   d K)
theorem S33_1_ok (F : Nat) (o : Summ) (ho : SoundFn Tryd.prog 33 o) : SoundFn Tryd.prog 33 (S33_1 F o) :=
  soundFn_of (fn := Tryd.f33) (c := code33) rfl rfl (by kernel_rfl) (tab_cons (S54_1_ok F _ (noS_sound enter54)) tab_nil) (by kernel_rfl) (by kernel_rfl) ho (by rw [loops33]; exact loopsOK_nil) (by rw [scopes33]; exact scopesOK_nil) (by rw [ranges33]; exact rangesOK_nil) (E33_1 F)
end Go.Proofs.YtlgopekjjkdkiaaDoor.X
end

section
namespace Go.Proofs.YtlgopekjjkdkiaaDoor.X
open Go Go.Proofs.YtlgopekjjkdkiaaDoor.Ev Go.Proofs
set_option linter.unusedVariables false
set_option linter.unusedSectionVars false
/-! cow.head).body -/
noncomputable def f34_1 {β : Type} (F : Nat) (a1 : Int) (a2 : Int) (a3 : Int) (a4 : Int) (K0 : ByteArray → Option β) : Option β := f55_1 F 8 a1 [] (fun x1 => f55_1 F 4 a2 x1 (fun x2 => f55_1 F 4 a3 x2 (fun x3 => f55_1 F 4 a4 x3 (fun x4 => K0 (ofInts x4)) ) ) ) 
variable [FZ]
def sh34_1 : Sh := ⟨[.agg [.int .u64, .int .u64, .int .u64, .int .u64]], []⟩
abbrev Y34_1 := Int → Int → Int → Int → (ByteArray → Option Res) → Option Res
noncomputable def A34_1 (g : Y34_1) (d : sh34_1.den) (K : KF) : Option Res := g d.1.1.1 d.1.1.2.1 d.1.1.2.2.1 d.1.1.2.2.2.1 (fun (y0 : ByteArray) => K [.lf (.str y0)] [])
noncomputable def S34_1 (F : Nat) (o : Summ) : Summ := mkS sh34_1 (fun d K => A34_1 (f34_1 F) d K) o
noncomputable def code34 : Code := bodyOf Tryd.f34
theorem scopes34 : scopesOf code34 = [] := by kernel_rfl
theorem ranges34 : rangesOf code34 = [] := by kernel_rfl
theorem loops34 : loopsOf code34 = [] := by kernel_rfl
theorem enter34 : ∀ args w, (callFunc 34 args).run Tryd.prog w = .ok (.enter 34 args) w := enter_of (fn := Tryd.f34) (by kernel_rfl) (by kernel_rfl) (by kernel_rfl)
noncomputable def T34_1 (F : Nat) : FuncId → Option Summ := tab [(55, (S55_1 F noS))]
noncomputable def TB34_1 (c55_1 : Y55_1) : FuncId → Option Summ := tab [(55, (mkS sh55_1 (fun d K => A55_1 c55_1 d K) noS))]
noncomputable def LT34_1 (F : Nat) : Nat → Option LoopS := ltab []
theorem E34_1g (F : Nat) (c55_1 : Y55_1)   (d : sh34_1.den) (K : KF) : evBody Tryd.prog (TB34_1 c55_1) (xw []) 20 0 (ltab []) [] code34 Tryd.f34.results.toList (encT sh34_1.vs d.1) (encH sh34_1.h d.2) K = A34_1 (fun (a1 : Int) (a2 : Int) (a3 : Int) (a4 : Int) (K0 : (ByteArray → Option Res)) => c55_1 8 a1 [] (fun x1 => c55_1 4 a2 x1 (fun x2 => c55_1 4 a3 x2 (fun x3 => c55_1 4 a4 x3 (fun x4 => K0 (ofInts x4)) ) ) ) ) d K := by kernel_rfl
theorem E34_1 (F : Nat) (d : sh34_1.den) (K : KF) : evBody Tryd.prog (T34_1 F) (xw []) 20 0 (LT34_1 F) [] code34 Tryd.f34.results.toList (encT sh34_1.vs d.1) (encH sh34_1.h d.2) K = A34_1 (f34_1 F) d K := Eq.mp (by kernel_rfl) (E34_1g F (f55_1 F)   d K)
theorem S34_1_ok (F : Nat) (o : Summ) (ho : SoundFn Tryd.prog 34 o) : SoundFn Tryd.prog 34 (S34_1 F o) :=
  soundFn_of (fn := Tryd.f34) (c := code34) rfl rfl (by kernel_rfl) (tab_cons (S55_1_ok F _ (noS_sound enter55)) tab_nil) (by kernel_rfl) (by kernel_rfl) ho (by rw [loops34]; exact loopsOK_nil) (by rw [scopes34]; exact scopesOK_nil) (by rw [ranges34]; exact rangesOK_nil) (E34_1 F)
end Go.Proofs.YtlgopekjjkdkiaaDoor.X
end

section
namespace Go.Proofs.YtlgopekjjkdkiaaDoor.X
open Go Go.Proofs.YtlgopekjjkdkiaaDoor.Ev Go.Proofs
set_option linter.unusedVariables false
set_option linter.unusedSectionVars false
/-! cow.Append -/
noncomputable def f9_1 {β : Type} (F : Nat) (a1 : Int) (a2 : Int) (a3 : Int) (a4 : Int) (a5 : Int) (a6 : Int) (a7 : Int) (a8 : Int) (a9 : Bool) (a10 : Int) (a11 : List ByteArray) (a12 : List (Int × ByteArray)) (K0 : Int → Int → ByteArray → Int → Int → Bool → Int → List ByteArray → List (Int × ByteArray) → Option β) : Option β := f27_1 F a1 a2 a3 a4 (fun x1 => cond (!x1) (K0 0 0 ByteArray.empty 12 a8 a9 a10 a11 a12) (cond (decide (a5 < 0)) (K0 0 0 ByteArray.empty 11 a8 a9 a10 a11 a12) (cond (decide (a5 ≥ a3)) (K0 0 0 ByteArray.empty 11 a8 a9 a10 a11 a12) (f28_1 F a1 a2 a3 a4 a7 (fun x2 => cond (decide (x2 < 0)) (K0 0 0 ByteArray.empty 3 a8 a9 a10 a11 a12) (f28_1 F a1 a2 a3 a4 a7 (fun x3 => f29_1 F x3 a8 a9 a10 a11 a12 (fun x4 x5 => cond (x5 != 0) (K0 0 0 ByteArray.empty x5 a8 a9 a10 a11 a12) (f31_1 F a1 a2 a3 a4 0 (IntKind.i64.wrap ((IntKind.i64.wrap (2 * a5)) + 1)) (fun x6 => f30_1 F x6 x4 a8 a9 a10 a11 a12 (fun x7 x8 x9 x10 x11 x12 => cond (x7 != 0) (K0 0 0 ByteArray.empty x7 x8 x9 x10 x11 x12) (f33_1 F a5 0 a6 a7 x4 (fun x13 x14 x15 => f34_1 F a6 x13 x14 x15 (fun x16 => f32_1 F 8 x16 (fun x17 x18 => cond (x18 != 0) (K0 0 0 ByteArray.empty x18 x8 x9 x10 x11 x12) (f31_1 F a1 a2 a3 a4 0 (IntKind.i64.wrap (2 * a5)) (fun x19 => f30_1 F x19 x17 x8 x9 x10 x11 x12 (fun x20 x21 x22 x23 x24 x25 => cond (x20 != 0) (K0 0 0 ByteArray.empty x20 x21 x22 x23 x24 x25) (K0 a6 a7 x4 0 x21 x22 x23 x24 x25)) ) )) ) ) )) ) )) ) )) )))) 
variable [FZ]
def sh9_1 : Sh := ⟨[.lf (.ptr 0 0), .agg [.int .i64, .int .i64, .int .i64, .int .i64], .lf (.int .i64), .lf (.int .u64), .lf (.int .i64)], [some ⟨some false, [.full 1, .full 2, .int .i64, .bool, .int .i64]⟩, some ⟨some false, [.seq .str 0]⟩, some ⟨some false, [.seq (.pair (.int .i64) .str) 0]⟩]⟩
abbrev Y9_1 := Int → Int → Int → Int → Int → Int → Int → Int → Bool → Int → List ByteArray → List (Int × ByteArray) → (Int → Int → ByteArray → Int → Int → Bool → Int → List ByteArray → List (Int × ByteArray) → Option Res) → Option Res
noncomputable def A9_1 (g : Y9_1) (d : sh9_1.den) (K : KF) : Option Res := g d.1.2.1.1 d.1.2.1.2.1 d.1.2.1.2.2.1 d.1.2.1.2.2.2.1 d.1.2.2.1 d.1.2.2.2.1 d.1.2.2.2.2.1 d.2.1.2.2.2.1 d.2.1.2.2.2.2.1 d.2.1.2.2.2.2.2.1 d.2.2.1.2.1 d.2.2.2.1.2.1 (fun (y1 : Int) (y2 : Int) (y3 : ByteArray) (y4 : Int) (y5 : Int) (y6 : Bool) (y7 : Int) (y8 : List ByteArray) (y9 : List (Int × ByteArray)) => K [.agg [.int .u64 0, .int .u64 y1, .int .i64 y2, .str y3], .lf (.int .i64 y4)] [some ⟨false, [.full 1, .full 3, .int .i64 y5, .bool y6, .int .i64 y7]⟩, some ⟨false, [.seq .str 0 y8]⟩, none, some ⟨false, [.seq (.pair (.int .i64) .str) 0 y9]⟩])
noncomputable def S9_1 (F : Nat) (o : Summ) : Summ := mkS sh9_1 (fun d K => A9_1 (f9_1 F) d K) o
noncomputable def code9 : Code := bodyOf Tryd.f9
theorem scopes9 : scopesOf code9 = [] := by kernel_rfl
theorem ranges9 : rangesOf code9 = [] := by kernel_rfl
theorem loops9 : loopsOf code9 = [] := by kernel_rfl
theorem enter9 : ∀ args w, (callFunc 9 args).run Tryd.prog w = .ok (.enter 9 args) w := enter_of (fn := Tryd.f9) (by kernel_rfl) (by kernel_rfl) (by kernel_rfl)
noncomputable def T9_1 (F : Nat) : FuncId → Option Summ := tab [(27, (S27_1 F noS)), (28, (S28_1 F noS)), (29, (S29_1 F noS)), (30, (S30_1 F noS)), (31, (S31_1 F noS)), (32, (S32_1 F noS)), (33, (S33_1 F noS)), (34, (S34_1 F noS))]
noncomputable def TB9_1 (c27_1 : Y27_1) (c28_1 : Y28_1) (c29_1 : Y29_1) (c30_1 : Y30_1) (c31_1 : Y31_1) (c32_1 : Y32_1) (c33_1 : Y33_1) (c34_1 : Y34_1) : FuncId → Option Summ := tab [(27, (mkS sh27_1 (fun d K => A27_1 c27_1 d K) noS)), (28, (mkS sh28_1 (fun d K => A28_1 c28_1 d K) noS)), (29, (mkS sh29_1 (fun d K => A29_1 c29_1 d K) noS)), (30, (mkS sh30_1 (fun d K => A30_1 c30_1 d K) noS)), (31, (mkS sh31_1 (fun d K => A31_1 c31_1 d K) noS)), (32, (mkS sh32_1 (fun d K => A32_1 c32_1 d K) noS)), (33, (mkS sh33_1 (fun d K => A33_1 c33_1 d K) noS)), (34, (mkS sh34_1 (fun d K => A34_1 c34_1 d K) noS))]
noncomputable def LT9_1 (F : Nat) : Nat → Option LoopS := ltab []
theorem E9_1g (F : Nat) (c27_1 : Y27_1) (c28_1 : Y28_1) (c29_1 : Y29_1) (c30_1 : Y30_1) (c31_1 : Y31_1) (c32_1 : Y32_1) (c33_1 : Y33_1) (c34_1 : Y34_1)   (d : sh9_1.den) (K : KF) : evBody Tryd.prog (TB9_1 c27_1 c28_1 c29_1 c30_1 c31_1 c32_1 c33_1 c34_1) (xw []) 91 3 (ltab []) [2] code9 Tryd.f9.results.toList (encT sh9_1.vs d.1) (encH sh9_1.h d.2) K = A9_1 (fun (a1 : Int) (a2 : Int) (a3 : Int) (a4 : Int) (a5 : Int) (a6 : Int) (a7 : Int) (a8 : Int) (a9 : Bool) (a10 : Int) (a11 : List ByteArray) (a12 : List (Int × ByteArray)) (K0 : (Int → Int → ByteArray → Int → Int → Bool → Int → List ByteArray → List (Int × ByteArray) → Option Res)) => c27_1 a1 a2 a3 a4 (fun x1 => cond (!x1) (K0 0 0 ByteArray.empty 12 a8 a9 a10 a11 a12) (cond (decide (a5 < 0)) (K0 0 0 ByteArray.empty 11 a8 a9 a10 a11 a12) (cond (decide (a5 ≥ a3)) (K0 0 0 ByteArray.empty 11 a8 a9 a10 a11 a12) (c28_1 a1 a2 a3 a4 a7 (fun x2 => cond (decide (x2 < 0)) (K0 0 0 ByteArray.empty 3 a8 a9 a10 a11 a12) (c28_1 a1 a2 a3 a4 a7 (fun x3 => c29_1 x3 a8 a9 a10 a11 a12 (fun x4 x5 => cond (x5 != 0) (K0 0 0 ByteArray.empty x5 a8 a9 a10 a11 a12) (c31_1 a1 a2 a3 a4 0 (IntKind.i64.wrap ((IntKind.i64.wrap (2 * a5)) + 1)) (fun x6 => c30_1 x6 x4 a8 a9 a10 a11 a12 (fun x7 x8 x9 x10 x11 x12 => cond (x7 != 0) (K0 0 0 ByteArray.empty x7 x8 x9 x10 x11 x12) (c33_1 a5 0 a6 a7 x4 (fun x13 x14 x15 => c34_1 a6 x13 x14 x15 (fun x16 => c32_1 8 x16 (fun x17 x18 => cond (x18 != 0) (K0 0 0 ByteArray.empty x18 x8 x9 x10 x11 x12) (c31_1 a1 a2 a3 a4 0 (IntKind.i64.wrap (2 * a5)) (fun x19 => c30_1 x19 x17 x8 x9 x10 x11 x12 (fun x20 x21 x22 x23 x24 x25 => cond (x20 != 0) (K0 0 0 ByteArray.empty x20 x21 x22 x23 x24 x25) (K0 a6 a7 x4 0 x21 x22 x23 x24 x25)) ) )) ) ) )) ) )) ) )) )))) ) d K := by kernel_rfl
theorem E9_1 (F : Nat) (d : sh9_1.den) (K : KF) : evBody Tryd.prog (T9_1 F) (xw []) 91 3 (LT9_1 F) [2] code9 Tryd.f9.results.toList (encT sh9_1.vs d.1) (encH sh9_1.h d.2) K = A9_1 (f9_1 F) d K := Eq.mp (by kernel_rfl) (E9_1g F (f27_1 F) (f28_1 F) (f29_1 F) (f30_1 F) (f31_1 F) (f32_1 F) (f33_1 F) (f34_1 F)   d K)
theorem S9_1_ok (F : Nat) (o : Summ) (ho : SoundFn Tryd.prog 9 o) : SoundFn Tryd.prog 9 (S9_1 F o) :=
  soundFn_of (fn := Tryd.f9) (c := code9) rfl rfl (by kernel_rfl) (tab_cons (S27_1_ok F _ (noS_sound enter27)) (tab_cons (S28_1_ok F _ (noS_sound enter28)) (tab_cons (S29_1_ok F _ (noS_sound enter29)) (tab_cons (S30_1_ok F _ (noS_sound enter30)) (tab_cons (S31_1_ok F _ (noS_sound enter31)) (tab_cons (S32_1_ok F _ (noS_sound enter32)) (tab_cons (S33_1_ok F _ (noS_sound enter33)) (tab_cons (S34_1_ok F _ (noS_sound enter34)) tab_nil)))))))) (by kernel_rfl) (by kernel_rfl) ho (by rw [loops9]; exact loopsOK_nil) (by rw [scopes9]; exact scopesOK_nil) (by rw [ranges9]; exact rangesOK_nil) (E9_1 F)
end Go.Proofs.YtlgopekjjkdkiaaDoor.X
end

section
namespace Go.Proofs.YtlgopekjjkdkiaaDoor.X
open Go Go.Proofs.YtlgopekjjkdkiaaDoor.Ev Go.Proofs
set_option linter.unusedVariables false
set_option linter.unusedSectionVars false
/-! cow.read -/
noncomputable def f35_1 {β : Type} (F : Nat) (a1 : ByteArray) (K0 : Int → Int → Int → Int → Bool → Option β) : Option β := f56_1 F 8 a1 (fun x1 x2 => f57_1 F (toInts x1) (fun x3 => f58_1 F 8 0 x3 (fun x4 x5 x6 => f58_1 F 4 x5 x6 (fun x7 x8 x9 => f58_1 F 4 x8 x9 (fun x10 x11 x12 => f58_1 F 4 x11 x12 (fun x13 x14 x15 => cond (x2 == 0) (K0 x4 x7 x10 x13 ((x1.size : Int) == 20)) (K0 x4 x7 x10 x13 false)) ) ) ) ) ) 
variable [FZ]
def sh35_1 : Sh := ⟨[.lf (.str)], []⟩
abbrev Y35_1 := ByteArray → (Int → Int → Int → Int → Bool → Option Res) → Option Res
noncomputable def A35_1 (g : Y35_1) (d : sh35_1.den) (K : KF) : Option Res := g d.1.1 (fun (y0 : Int) (y1 : Int) (y2 : Int) (y3 : Int) (y4 : Bool) => K [.agg [.int .u64 y0, .int .u64 y1, .int .u64 y2, .int .u64 y3], .lf (.bool y4)] [])
noncomputable def S35_1 (F : Nat) (o : Summ) : Summ := mkS sh35_1 (fun d K => A35_1 (f35_1 F) d K) o
noncomputable def code35 : Code := bodyOf Tryd.f35
theorem scopes35 : scopesOf code35 = [] := by kernel_rfl
theorem ranges35 : rangesOf code35 = [] := by kernel_rfl
theorem loops35 : loopsOf code35 = [] := by kernel_rfl
theorem enter35 : ∀ args w, (callFunc 35 args).run Tryd.prog w = .ok (.enter 35 args) w := enter_of (fn := Tryd.f35) (by kernel_rfl) (by kernel_rfl) (by kernel_rfl)
noncomputable def T35_1 (F : Nat) : FuncId → Option Summ := tab [(56, (S56_1 F noS)), (57, (S57_1 F noS)), (58, (S58_1 F noS))]
noncomputable def TB35_1 (c56_1 : Y56_1) (c57_1 : Y57_1) (c58_1 : Y58_1) : FuncId → Option Summ := tab [(56, (mkS sh56_1 (fun d K => A56_1 c56_1 d K) noS)), (57, (mkS sh57_1 (fun d K => A57_1 c57_1 d K) noS)), (58, (mkS sh58_1 (fun d K => A58_1 c58_1 d K) noS))]
noncomputable def LT35_1 (F : Nat) : Nat → Option LoopS := ltab []
theorem E35_1g (F : Nat) (c56_1 : Y56_1) (c57_1 : Y57_1) (c58_1 : Y58_1)   (d : sh35_1.den) (K : KF) : evBody Tryd.prog (TB35_1 c56_1 c57_1 c58_1) (xw []) 33 0 (ltab []) [] code35 Tryd.f35.results.toList (encT sh35_1.vs d.1) (encH sh35_1.h d.2) K = A35_1 (fun (a1 : ByteArray) (K0 : (Int → Int → Int → Int → Bool → Option Res)) => c56_1 8 a1 (fun x1 x2 => c57_1 (toInts x1) (fun x3 => c58_1 8 0 x3 (fun x4 x5 x6 => c58_1 4 x5 x6 (fun x7 x8 x9 => c58_1 4 x8 x9 (fun x10 x11 x12 => c58_1 4 x11 x12 (fun x13 x14 x15 => cond (x2 == 0) (K0 x4 x7 x10 x13 ((x1.size : Int) == 20)) (K0 x4 x7 x10 x13 false)) ) ) ) ) ) ) d K := by kernel_rfl
theorem E35_1 (F : Nat) (d : sh35_1.den) (K : KF) : evBody Tryd.prog (T35_1 F) (xw []) 33 0 (LT35_1 F) [] code35 Tryd.f35.results.toList (encT sh35_1.vs d.1) (encH sh35_1.h d.2) K = A35_1 (f35_1 F) d K := Eq.mp (by kernel_rfl) (E35_1g F (f56_1 F) (f57_1 F) (f58_1 F)   d K)
theorem S35_1_ok (F : Nat) (o : Summ) (ho : SoundFn Tryd.prog 35 o) : SoundFn Tryd.prog 35 (S35_1 F o) :=
  soundFn_of (fn := Tryd.f35) (c := code35) rfl rfl (by kernel_rfl) (tab_cons (S56_1_ok F _ (noS_sound enter56)) (tab_cons (S57_1_ok F _ (noS_sound enter57)) (tab_cons (S58_1_ok F _ (noS_sound enter58)) tab_nil))) (by kernel_rfl) (by kernel_rfl) ho (by rw [loops35]; exact loopsOK_nil) (by rw [scopes35]; exact scopesOK_nil) (by rw [ranges35]; exact rangesOK_nil) (E35_1 F)
end Go.Proofs.YtlgopekjjkdkiaaDoor.X
end

section
namespace Go.Proofs.YtlgopekjjkdkiaaDoor.X
open Go Go.Proofs.YtlgopekjjkdkiaaDoor.Ev Go.Proofs
set_option linter.unusedVariables false
set_option linter.unusedSectionVars false
/-! cow.Scan -/
noncomputable def f13_1_l5 {β : Type} (F : Nat) (v2 : Int) (v3 : Int) (v5 : Int) (v6 : Bool) (v7 : Int) (v8 : List ByteArray) (v9 : List (Int × ByteArray)) (v10 : Int) (v11 : Int) (v12 : Int) (v13 : Int) (K0 : Int → List (Int × (Int × (Int × ByteArray))) → Option β) (K1 : List (Int × (Int × (Int × ByteArray))) → Int → Int → Int → Int → Option β) (K2 : Int → List (Int × (Int × (Int × ByteArray))) → Int → Int → Int → Int → Int → ByteArray → Option β) (K3 : List (Int × (Int × (Int × ByteArray))) → Int → Int → Int → Int → Int → ByteArray → Option β) (K4 : List (Int × (Int × (Int × ByteArray))) → Option β) : Nat → Int → List (Int × (Int × (Int × ByteArray))) → Option β
  | 0, _, _ => none
  | k + 1, v4, v14 => cond (decide (v4 < v3)) (f31_1 F v10 v11 v12 v13 0 (IntKind.i64.wrap (2 * v4)) (fun x15 => f29_1 F x15 v5 v6 v7 v8 v9 (fun x16 x17 => cond (x17 != 0) (K0 x17 v14) (f35_1 F x16 (fun x18 x19 x20 x21 x22 => cond (!x22) (K1 v14 x18 x19 x20 x21) (cond (x18 != v2) (K1 v14 x18 x19 x20 x21) (cond (x19 != (IntKind.u64.wrap v4)) (K1 v14 x18 x19 x20 x21) (cond (decide (x20 ≥ IntKind.u64.wrap v10)) (K1 v14 x18 x19 x20 x21) (f31_1 F v10 v11 v12 v13 0 (IntKind.i64.wrap ((IntKind.i64.wrap (2 * v4)) + 1)) (fun x23 => f29_1 F x23 v5 v6 v7 v8 v9 (fun x24 x25 => cond (x25 != 0) (K2 x25 v14 x18 x19 x20 x21 (IntKind.i64.wrap x20) x24) (f33_1 F v4 0 v2 (IntKind.i64.wrap x20) x24 (fun x26 x27 x28 => cond (!((v2 == x18) && ((x26 == x19) && ((x27 == x20) && (x28 == x21))))) (K3 v14 x18 x19 x20 x21 (IntKind.i64.wrap x20) x24) (cond (decide ((v14.length + 1) * 40 ≤ 70368744177664)) (f13_1_l5 F v2 v3 v5 v6 v7 v8 v9 v10 v11 v12 v13 K0 K1 K2 K3 K4 k (IntKind.i64.wrap (v4 + 1)) (v14 ++ [(0, (v2, (IntKind.i64.wrap x20, x24)))])) none)) )) ) ))))) )) ) ) (K4 v14)
noncomputable def f13_1 {β : Type} (F : Nat) (a1 : Int) (a2 : Int) (a3 : Int) (a4 : Int) (a5 : Int) (a6 : Int) (a7 : Bool) (a8 : Int) (a9 : List ByteArray) (a10 : List (Int × ByteArray)) (K0 : Int → List (Int × (Int × (Int × ByteArray))) → Option β) : Option β := f27_1 F a1 a2 a3 a4 (fun x1 => cond (!x1) (K0 12 []) (f13_1_l5 F a5 a3 a6 a7 a8 a9 a10 a1 a2 a3 a4 (fun x29 x30 => K0 x29 []) (fun x31 x32 x33 x34 x35 => K0 0 x31) (fun x36 x37 x38 x39 x40 x41 x42 x43 => K0 x36 []) (fun x44 x45 x46 x47 x48 x49 x50 => K0 0 x44) (fun x51 => K0 0 x51) F 0 [])) 
variable [FZ]
def sh13_1 : Sh := ⟨[.lf (.ptr 0 0), .agg [.int .i64, .int .i64, .int .i64, .int .i64], .lf (.int .u64)], [some ⟨none, [.full 1, .full 2, .int .i64, .bool, .int .i64]⟩, some ⟨none, [.seq .str 0]⟩, some ⟨none, [.seq (.pair (.int .i64) .str) 0]⟩]⟩
abbrev Y13_1 := Int → Int → Int → Int → Int → Int → Bool → Int → List ByteArray → List (Int × ByteArray) → (Int → List (Int × (Int × (Int × ByteArray))) → Option Res) → Option Res
noncomputable def A13_1 (g : Y13_1) (d : sh13_1.den) (K : KF) : Option Res := g d.1.2.1.1 d.1.2.1.2.1 d.1.2.1.2.2.1 d.1.2.1.2.2.2.1 d.1.2.2.1 d.2.1.2.2.2.1 d.2.1.2.2.2.2.1 d.2.1.2.2.2.2.2.1 d.2.2.1.2.1 d.2.2.2.1.2.1 (fun (y0 : Int) (y6 : List (Int × (Int × (Int × ByteArray)))) => K [.lf (.full 3), .lf (.int .i64 y0)] [some ⟨d.2.1.1, [.full 1, .full 2, .int .i64 d.2.1.2.2.2.1, .bool d.2.1.2.2.2.2.1, .int .i64 d.2.1.2.2.2.2.2.1]⟩, some ⟨d.2.2.1.1, [.seq .str 0 d.2.2.1.2.1]⟩, some ⟨d.2.2.2.1.1, [.seq (.pair (.int .i64) .str) 0 d.2.2.2.1.2.1]⟩, some ⟨false, [.seq (.pair (.int .u64) (.pair (.int .u64) (.pair (.int .i64) .str))) 0 y6]⟩])
noncomputable def S13_1 (F : Nat) (o : Summ) : Summ := mkS sh13_1 (fun d K => A13_1 (f13_1 F) d K) o
noncomputable def code13 : Code := bodyOf Tryd.f13
noncomputable def b13_0 : Code := cB (cB (cR (cL (cR (cR (cR (cB (cR (code13)))))))))
noncomputable def s13_0 : Code := cB (cR (code13))
noncomputable def r13_0 : Code := match findLabel s13_0 0 with | some c => c | none => .skip
theorem find13_0 : findLabel s13_0 0 = some r13_0 := by kernel_rfl
theorem rloops13_0 : loopsOf r13_0 = [b13_0] := by kernel_rfl
theorem rscopes13_0 : scopesOf r13_0 = [] := by kernel_rfl
theorem rranges13_0 : rangesOf r13_0 = [] := by kernel_rfl
theorem scopes13 : scopesOf code13 = [s13_0] := by kernel_rfl
theorem ranges13 : rangesOf code13 = [] := by kernel_rfl
theorem loops13 : loopsOf code13 = [b13_0] := by kernel_rfl
theorem enter13 : ∀ args w, (callFunc 13 args).run Tryd.prog w = .ok (.enter 13 args) w := enter_of (fn := Tryd.f13) (by kernel_rfl) (by kernel_rfl) (by kernel_rfl)
noncomputable def T13_1 (F : Nat) : FuncId → Option Summ := tab [(27, (S27_1 F noS)), (29, (S29_1 F noS)), (31, (S31_1 F noS)), (33, (S33_1 F noS)), (35, (S35_1 F noS))]
noncomputable def TB13_1 (c27_1 : Y27_1) (c29_1 : Y29_1) (c31_1 : Y31_1) (c33_1 : Y33_1) (c35_1 : Y35_1) : FuncId → Option Summ := tab [(27, (mkS sh27_1 (fun d K => A27_1 c27_1 d K) noS)), (29, (mkS sh29_1 (fun d K => A29_1 c29_1 d K) noS)), (31, (mkS sh31_1 (fun d K => A31_1 c31_1 d K) noS)), (33, (mkS sh33_1 (fun d K => A33_1 c33_1 d K) noS)), (35, (mkS sh35_1 (fun d K => A35_1 c35_1 d K) noS))]
def sh13_1_l5 : Sh := ⟨[.lf (.ptr 0 0), .lf (.int .u64), .lf (.ptr 3 0), .lf (.full 4), .lf (.int .i64), .lf (.int .i64)], [some ⟨none, [.full 1, .full 2, .int .i64, .bool, .int .i64]⟩, some ⟨none, [.seq .str 0]⟩, some ⟨none, [.seq (.pair (.int .i64) .str) 0]⟩, some ⟨some false, [.int .i64, .int .i64, .int .i64, .int .i64]⟩, some ⟨some false, [.seq (.pair (.int .u64) (.pair (.int .u64) (.pair (.int .i64) .str))) 0]⟩]⟩
abbrev Y13_1_l5 := Int → Int → Int → Bool → Int → List ByteArray → List (Int × ByteArray) → Int → Int → Int → Int → (Int → List (Int × (Int × (Int × ByteArray))) → Option Res) → (List (Int × (Int × (Int × ByteArray))) → Int → Int → Int → Int → Option Res) → (Int → List (Int × (Int × (Int × ByteArray))) → Int → Int → Int → Int → Int → ByteArray → Option Res) → (List (Int × (Int × (Int × ByteArray))) → Int → Int → Int → Int → Int → ByteArray → Option Res) → (List (Int × (Int × (Int × ByteArray))) → Option Res) → Nat → Int → List (Int × (Int × (Int × ByteArray))) → Option Res
noncomputable def A13_1_l5 (g : Y13_1_l5) (k : Nat) (d : sh13_1_l5.den) (K : KL) : Option Res := g d.1.2.1 d.1.2.2.2.2.1 d.2.1.2.2.2.1 d.2.1.2.2.2.2.1 d.2.1.2.2.2.2.2.1 d.2.2.1.2.1 d.2.2.2.1.2.1 d.2.2.2.2.1.2.1 d.2.2.2.2.1.2.2.1 d.2.2.2.2.1.2.2.2.1 d.2.2.2.2.1.2.2.2.2.1 (fun (y0 : Int) (y10 : List (Int × (Int × (Int × ByteArray)))) => K .ret [.tv (.lf (.nils (some (.pair (.int .u64) (.pair (.int .u64) (.pair (.int .i64) .str)))))), .tv (.lf (.int .i64 y0))] [some ⟨d.2.1.1, [.full 1, .full 2, .int .i64 d.2.1.2.2.2.1, .bool d.2.1.2.2.2.2.1, .int .i64 d.2.1.2.2.2.2.2.1]⟩, some ⟨d.2.2.1.1, [.seq .str 0 d.2.2.1.2.1]⟩, some ⟨d.2.2.2.1.1, [.seq (.pair (.int .i64) .str) 0 d.2.2.2.1.2.1]⟩, some ⟨false, [.int .i64 d.2.2.2.2.1.2.1, .int .i64 d.2.2.2.2.1.2.2.1, .int .i64 d.2.2.2.2.1.2.2.2.1, .int .i64 d.2.2.2.2.1.2.2.2.2.1]⟩, some ⟨false, [.seq (.pair (.int .u64) (.pair (.int .u64) (.pair (.int .i64) .str))) 0 y10]⟩]) (fun (y9 : List (Int × (Int × (Int × ByteArray)))) (y10 : Int) (y11 : Int) (y12 : Int) (y13 : Int) => K (.exit 0) [.tv (.lf (.full 4))] [some ⟨d.2.1.1, [.full 1, .full 2, .int .i64 d.2.1.2.2.2.1, .bool d.2.1.2.2.2.2.1, .int .i64 d.2.1.2.2.2.2.2.1]⟩, some ⟨d.2.2.1.1, [.seq .str 0 d.2.2.1.2.1]⟩, some ⟨d.2.2.2.1.1, [.seq (.pair (.int .i64) .str) 0 d.2.2.2.1.2.1]⟩, some ⟨false, [.int .i64 d.2.2.2.2.1.2.1, .int .i64 d.2.2.2.2.1.2.2.1, .int .i64 d.2.2.2.2.1.2.2.2.1, .int .i64 d.2.2.2.2.1.2.2.2.2.1]⟩, some ⟨false, [.seq (.pair (.int .u64) (.pair (.int .u64) (.pair (.int .i64) .str))) 0 y9]⟩, some ⟨false, [.int .u64 y10, .int .u64 y11, .int .u64 y12, .int .u64 y13]⟩]) (fun (y0 : Int) (y10 : List (Int × (Int × (Int × ByteArray)))) (y11 : Int) (y12 : Int) (y13 : Int) (y14 : Int) (y17 : Int) (y18 : ByteArray) => K .ret [.tv (.lf (.nils (some (.pair (.int .u64) (.pair (.int .u64) (.pair (.int .i64) .str)))))), .tv (.lf (.int .i64 y0))] [some ⟨d.2.1.1, [.full 1, .full 2, .int .i64 d.2.1.2.2.2.1, .bool d.2.1.2.2.2.2.1, .int .i64 d.2.1.2.2.2.2.2.1]⟩, some ⟨d.2.2.1.1, [.seq .str 0 d.2.2.1.2.1]⟩, some ⟨d.2.2.2.1.1, [.seq (.pair (.int .i64) .str) 0 d.2.2.2.1.2.1]⟩, some ⟨false, [.int .i64 d.2.2.2.2.1.2.1, .int .i64 d.2.2.2.2.1.2.2.1, .int .i64 d.2.2.2.2.1.2.2.2.1, .int .i64 d.2.2.2.2.1.2.2.2.2.1]⟩, some ⟨false, [.seq (.pair (.int .u64) (.pair (.int .u64) (.pair (.int .i64) .str))) 0 y10]⟩, some ⟨false, [.int .u64 y11, .int .u64 y12, .int .u64 y13, .int .u64 y14]⟩, some ⟨false, [.int .u64 0, .int .u64 d.1.2.1, .int .i64 y17, .str y18]⟩]) (fun (y9 : List (Int × (Int × (Int × ByteArray)))) (y10 : Int) (y11 : Int) (y12 : Int) (y13 : Int) (y16 : Int) (y17 : ByteArray) => K (.exit 0) [.tv (.lf (.full 4))] [some ⟨d.2.1.1, [.full 1, .full 2, .int .i64 d.2.1.2.2.2.1, .bool d.2.1.2.2.2.2.1, .int .i64 d.2.1.2.2.2.2.2.1]⟩, some ⟨d.2.2.1.1, [.seq .str 0 d.2.2.1.2.1]⟩, some ⟨d.2.2.2.1.1, [.seq (.pair (.int .i64) .str) 0 d.2.2.2.1.2.1]⟩, some ⟨false, [.int .i64 d.2.2.2.2.1.2.1, .int .i64 d.2.2.2.2.1.2.2.1, .int .i64 d.2.2.2.2.1.2.2.2.1, .int .i64 d.2.2.2.2.1.2.2.2.2.1]⟩, some ⟨false, [.seq (.pair (.int .u64) (.pair (.int .u64) (.pair (.int .i64) .str))) 0 y9]⟩, some ⟨false, [.int .u64 y10, .int .u64 y11, .int .u64 y12, .int .u64 y13]⟩, some ⟨false, [.int .u64 0, .int .u64 d.1.2.1, .int .i64 y16, .str y17]⟩]) (fun (y9 : List (Int × (Int × (Int × ByteArray)))) => K (.exit 0) [.tv (.lf (.full 4))] [some ⟨d.2.1.1, [.full 1, .full 2, .int .i64 d.2.1.2.2.2.1, .bool d.2.1.2.2.2.2.1, .int .i64 d.2.1.2.2.2.2.2.1]⟩, some ⟨d.2.2.1.1, [.seq .str 0 d.2.2.1.2.1]⟩, some ⟨d.2.2.2.1.1, [.seq (.pair (.int .i64) .str) 0 d.2.2.2.1.2.1]⟩, some ⟨false, [.int .i64 d.2.2.2.2.1.2.1, .int .i64 d.2.2.2.2.1.2.2.1, .int .i64 d.2.2.2.2.1.2.2.2.1, .int .i64 d.2.2.2.2.1.2.2.2.2.1]⟩, some ⟨false, [.seq (.pair (.int .u64) (.pair (.int .u64) (.pair (.int .i64) .str))) 0 y9]⟩]) k d.1.2.2.2.2.2.1 d.2.2.2.2.2.1.2.1
noncomputable def G13_1_5 (F k : Nat) : LoopS := mkG sh13_1_l5 [0, 2, 4, 8, 19, 20] (outT [(.exit 0, [8]), (.ret, [6, 7])]) (fun d K => A13_1_l5 (f13_1_l5 F) k d K) []
noncomputable def LT13_1 (F : Nat) : Nat → Option LoopS := ltab [(5, G13_1_5 F F)]
theorem L13_1_l5g (F k : Nat) (c27_1 : Y27_1) (c29_1 : Y29_1) (c31_1 : Y31_1) (c33_1 : Y33_1) (c35_1 : Y35_1)  (l5 : Y13_1_l5) (X5 : LoopS) (d : sh13_1_l5.den) (K : KL) : A13_1_l5 ((fun (v2 : Int) (v3 : Int) (v5 : Int) (v6 : Bool) (v7 : Int) (v8 : List ByteArray) (v9 : List (Int × ByteArray)) (v10 : Int) (v11 : Int) (v12 : Int) (v13 : Int) (K0 : (Int → List (Int × (Int × (Int × ByteArray))) → Option Res)) (K1 : (List (Int × (Int × (Int × ByteArray))) → Int → Int → Int → Int → Option Res)) (K2 : (Int → List (Int × (Int × (Int × ByteArray))) → Int → Int → Int → Int → Int → ByteArray → Option Res)) (K3 : (List (Int × (Int × (Int × ByteArray))) → Int → Int → Int → Int → Int → ByteArray → Option Res)) (K4 : (List (Int × (Int × (Int × ByteArray))) → Option Res)) (k : Nat) (v4 : Int) (v14 : List (Int × (Int × (Int × ByteArray)))) => cond (decide (v4 < v3)) (c31_1 v10 v11 v12 v13 0 (IntKind.i64.wrap (2 * v4)) (fun x15 => c29_1 x15 v5 v6 v7 v8 v9 (fun x16 x17 => cond (x17 != 0) (K0 x17 v14) (c35_1 x16 (fun x18 x19 x20 x21 x22 => cond (!x22) (K1 v14 x18 x19 x20 x21) (cond (x18 != v2) (K1 v14 x18 x19 x20 x21) (cond (x19 != (IntKind.u64.wrap v4)) (K1 v14 x18 x19 x20 x21) (cond (decide (x20 ≥ IntKind.u64.wrap v10)) (K1 v14 x18 x19 x20 x21) (c31_1 v10 v11 v12 v13 0 (IntKind.i64.wrap ((IntKind.i64.wrap (2 * v4)) + 1)) (fun x23 => c29_1 x23 v5 v6 v7 v8 v9 (fun x24 x25 => cond (x25 != 0) (K2 x25 v14 x18 x19 x20 x21 (IntKind.i64.wrap x20) x24) (c33_1 v4 0 v2 (IntKind.i64.wrap x20) x24 (fun x26 x27 x28 => cond (!((v2 == x18) && ((x26 == x19) && ((x27 == x20) && (x28 == x21))))) (K3 v14 x18 x19 x20 x21 (IntKind.i64.wrap x20) x24) (cond (decide ((v14.length + 1) * 40 ≤ 70368744177664)) (l5 v2 v3 v5 v6 v7 v8 v9 v10 v11 v12 v13 K0 K1 K2 K3 K4 k (IntKind.i64.wrap (v4 + 1)) (v14 ++ [(0, (v2, (IntKind.i64.wrap x20, x24)))])) none)) )) ) ))))) )) ) ) (K4 v14))) k d K = roundOf Tryd.prog (TB13_1 c27_1 c29_1 c31_1 c33_1 c35_1) (xw []) 93 3 (ltab [(5, X5)]) (mkG sh13_1_l5 [0, 2, 4, 8, 19, 20] (outT [(.exit 0, [8]), (.ret, [6, 7])]) (fun d K => A13_1_l5 l5 k d K) []) b13_0 (encT sh13_1_l5.vs d.1) (encH sh13_1_l5.h d.2) K := by kernel_rfl
theorem L13_1_5 (F : Nat) : LoopOK Tryd.prog (T13_1 F) (xw []) 93 3 (LT13_1 F) (G13_1_5 F F) b13_0 :=
  loopOK_of (s := sh13_1_l5) (live := [0, 2, 4, 8, 19, 20]) (out := (outT [(.exit 0, [8]), (.ret, [6, 7])])) (mv := []) (fun k d K => A13_1_l5 (f13_1_l5 F) k d K) F (fun d K => by kernel_rfl)  (fun k d K => Eq.mp (by kernel_rfl) (L13_1_l5g F k (f27_1 F) (f29_1 F) (f31_1 F) (f33_1 F) (f35_1 F)  (f13_1_l5 F) (G13_1_5 F F) d K))
theorem E13_1g (F : Nat) (c27_1 : Y27_1) (c29_1 : Y29_1) (c31_1 : Y31_1) (c33_1 : Y33_1) (c35_1 : Y35_1) (l5 : Y13_1_l5)  (d : sh13_1.den) (K : KF) : evBody Tryd.prog (TB13_1 c27_1 c29_1 c31_1 c33_1 c35_1) (xw []) 93 3 (ltab [(5, mkG sh13_1_l5 [0, 2, 4, 8, 19, 20] (outT [(.exit 0, [8]), (.ret, [6, 7])]) (fun d K => A13_1_l5 l5 F d K) [])]) [] code13 Tryd.f13.results.toList (encT sh13_1.vs d.1) (encH sh13_1.h d.2) K = A13_1 (fun (a1 : Int) (a2 : Int) (a3 : Int) (a4 : Int) (a5 : Int) (a6 : Int) (a7 : Bool) (a8 : Int) (a9 : List ByteArray) (a10 : List (Int × ByteArray)) (K0 : (Int → List (Int × (Int × (Int × ByteArray))) → Option Res)) => c27_1 a1 a2 a3 a4 (fun x1 => cond (!x1) (K0 12 []) (l5 a5 a3 a6 a7 a8 a9 a10 a1 a2 a3 a4 (fun x29 x30 => K0 x29 []) (fun x31 x32 x33 x34 x35 => K0 0 x31) (fun x36 x37 x38 x39 x40 x41 x42 x43 => K0 x36 []) (fun x44 x45 x46 x47 x48 x49 x50 => K0 0 x44) (fun x51 => K0 0 x51) F 0 [])) ) d K := by kernel_rfl
theorem E13_1 (F : Nat) (d : sh13_1.den) (K : KF) : evBody Tryd.prog (T13_1 F) (xw []) 93 3 (LT13_1 F) [] code13 Tryd.f13.results.toList (encT sh13_1.vs d.1) (encH sh13_1.h d.2) K = A13_1 (f13_1 F) d K := Eq.mp (by kernel_rfl) (E13_1g F (f27_1 F) (f29_1 F) (f31_1 F) (f33_1 F) (f35_1 F) (f13_1_l5 F)  d K)
theorem S13_1_ok (F : Nat) (o : Summ) (ho : SoundFn Tryd.prog 13 o) : SoundFn Tryd.prog 13 (S13_1 F o) :=
  soundFn_of (fn := Tryd.f13) (c := code13) rfl rfl (by kernel_rfl) (tab_cons (S27_1_ok F _ (noS_sound enter27)) (tab_cons (S29_1_ok F _ (noS_sound enter29)) (tab_cons (S31_1_ok F _ (noS_sound enter31)) (tab_cons (S33_1_ok F _ (noS_sound enter33)) (tab_cons (S35_1_ok F _ (noS_sound enter35)) tab_nil))))) (by kernel_rfl) (by kernel_rfl) ho (by rw [loops13]; exact (loopsOK_cons (by kernel_rfl) (L13_1_5 F) loopsOK_nil)) (by rw [scopes13]; exact (scopesOK_skip (fun i hi => by cases hi; kernel_rfl) scopesOK_nil)) (by rw [ranges13]; exact rangesOK_nil) (E13_1 F)
end Go.Proofs.YtlgopekjjkdkiaaDoor.X
end

section
/- Sectors that are kept: appended, scanned; the code's. -/
namespace Go.Proofs.YtlgopekjjkdkiaaDoor.X
open Go Go.Proofs.YtlgopekjjkdkiaaDoor.Ev
set_option linter.unusedSectionVars false
variable [FZ]
set_option linter.unusedVariables false
set_option linter.unusedSimpArgs false

/-! ### Numbers behind bytes -/

theorem putS {β : Type} {n s : Int} {v l : List Int} {k : Nat} {K : List Int → Option β} (h : 0 ≤ s ∧ s ≤ 100) (hl : l.length ≤ 2000) : f55_1_l6 20000 n v K (k + 1) s l = f55_1_l6 20000 n v K k (s - 8) (l ++ [IntKind.u8.wrap (ishr .u64 n s)]) := by
  rw [f55_1_l6, ct (by omega), cf (by omega), ct (by omega), w64 (by omega) (by omega)]
theorem putE {β : Type} {n : Int} {v l : List Int} {k : Nat} {K : List Int → Option β} : f55_1_l6 20000 n v K (k + 1) (-8) l = K l := by
  rw [f55_1_l6, cf (by omega)]
theorem putL4 {β : Type} {n : Int} {v l : List Int} {k : Nat} {K : List Int → Option β} (hl : l.length ≤ 1000) : f55_1_l6 20000 n v K (k + 1 + 1 + 1 + 1 + 1) 24 l = K (l ++ b4 n) := by
  rw [putS (by omega) (by omega), putS (by omega) (by simp; omega), putS (by omega) (by simp; omega), putS (by omega) (by simp; omega)]
  refine putE.trans ?_
  congr 1
  simp [b4]
theorem putA4 {β : Type} {n : Int} {l : List Int} {K : List Int → Option β} (hl : l.length ≤ 1000) : f55_1 20000 4 n l K = K (l ++ b4 n) := by
  rw [f55_1, w64 (x := ((l.length : Nat) : Int) + 8) (by omega) (by omega), ct ⟨by omega, by omega, by omega, by omega⟩, ct (by omega), f74_1, ct (by omega), decide_eq_true (show (4 : Int) ≤ 8 by omega), cond_ff', List.take_zero, List.nil_append]
  exact putL4 (k := 19995) (K := fun x => K x) hl

/-! ### A head -/

def hdL (e k i s : Int) : List Int := b8 e ++ (b4 k ++ (b4 i ++ b4 s))
def hdB (e k i s : Int) : ByteArray := mkB 8 (ofInts (hdL e k i s))
theorem hdL_len (e k i s : Int) : (hdL e k i s).length = 20 := rfl
theorem hdL_r (e k i s : Int) : byts (hdL e k i s) := app_r (b8_r e) (app_r (b4_r k) (app_r (b4_r i) (b4_r s)))
theorem hdB_size (e k i s : Int) : (hdB e k i s).size = 64 := mkB_size (by rw [oi_size, hdL_len]; omega)

theorem bodyP {β : Type} {e k i s : Int} {K : ByteArray → Option β} : f34_1 20000 e k i s K = K (ofInts (hdL e k i s)) := by
  have h8 : (b8 e).length = 8 := rfl
  have h4 : ∀ n, (b4 n).length = 4 := fun _ => rfl
  rw [f34_1, put8, putA4 (by omega), putA4 (by simp [h8, h4]), putA4 (by simp [h8, h4])]
  simp only [hdL, List.append_assoc]

/-- What the numbers of a head are. -/
def g1 (L : List Int) : Int := num 0 (L.take 8)
def g2 (L : List Int) : Int := num 0 ((L.drop 8).take 4)
def g3 (L : List Int) : Int := num 0 (((L.drop 8).drop 4).take 4)
def g4 (L : List Int) : Int := num 0 ((((L.drop 8).drop 4).drop 4).take 4)

theorem g_hd {e k i s : Int} (he : U64 e) (hk : U32 k) (hi : U32 i) (hs : U32 s) : g1 (hdL e k i s) = e ∧ g2 (hdL e k i s) = k ∧ g3 (hdL e k i s) = i ∧ g4 (hdL e k i s) = s := by
  have d1 : (hdL e k i s).drop 8 = b4 k ++ (b4 i ++ b4 s) := List.drop_left' (l₁ := b8 e) rfl
  have d2 : (b4 k ++ (b4 i ++ b4 s)).drop 4 = b4 i ++ b4 s := List.drop_left' rfl
  have d3 : (b4 i ++ b4 s).drop 4 = b4 s := List.drop_left' rfl
  have t1 : (hdL e k i s).take 8 = b8 e := List.take_left' (l₁ := b8 e) rfl
  have t2 : (b4 k ++ (b4 i ++ b4 s)).take 4 = b4 k := List.take_left' rfl
  have t3 : (b4 i ++ b4 s).take 4 = b4 i := List.take_left' rfl
  have t4 : (b4 s).take 4 = b4 s := rfl
  refine ⟨?_, ?_, ?_, ?_⟩
  · rw [g1, t1, num8 he]
  · rw [g2, d1, t2, num_b4 hk]
  · rw [g3, d1, d2, t3, num_b4 hi]
  · rw [g4, d1, d2, d3, t4, num_b4 hs]

theorem g_r {L : List Int} (hb : byts L) (hl : L.length = 20) : U64 (g1 L) ∧ U32 (g2 L) ∧ U32 (g3 L) ∧ U32 (g4 L) :=
  ⟨(num8_inv (by simp; omega) (take_r 8 hb)).2, (num4_inv (by simp; omega) (take_r 4 (drop_r 8 hb))).2, (num4_inv (by simp; omega) (take_r 4 (drop_r 4 (drop_r 8 hb)))).2, (num4_inv (by simp; omega) (take_r 4 (drop_r 4 (drop_r 4 (drop_r 8 hb))))).2⟩

theorem numOK {w : Nat} {l : List Int} (h1 : 1 ≤ w) (hw : w ≤ 8) (h : w ≤ l.length) (hl : l.length ≤ 100) (hb : byts l) {β : Type} (K : Int → Int → List Int → Option β) : f58_1 20000 (w : Int) 0 l K = K (num 0 (l.take w)) 0 (l.drop w) := by
  refine (numC h1 hw (by omega) hb).trans ?_
  rw [nm, if_neg (by simp), if_pos h]

theorem numE {w : Nat} {e : Int} {l : List Int} (h1 : 1 ≤ w) (hw : w ≤ 8) (hl : l.length ≤ 100) (hb : byts l) : ∃ (v e' : Int) (l' : List Int), (∀ {β : Type} (K : Int → Int → List Int → Option β), f58_1 20000 (w : Int) e l K = K v e' l') ∧ l'.length ≤ 100 ∧ byts l' := by
  refine ⟨(nm w e l).1, (nm w e l).2.1, (nm w e l).2.2, fun K => numC h1 hw (by omega) hb, ?_, ?_⟩
  · unfold nm
    split
    · exact hl
    · split
      · simp; omega
      · exact hl
  · unfold nm
    split
    · exact hb
    · split
      · exact drop_r w hb
      · exact hb

/-- A sector is a head, or none. -/
def isH (s : ByteArray) : Prop := (opn 8 s).2 = 0 ∧ (opn 8 s).1.size = 20
instance (s : ByteArray) : Decidable (isH s) := by unfold isH; infer_instance

theorem readH {s : ByteArray} : ∃ v1 v2 v3 v4 : Int, (∀ {β : Type} (K : Int → Int → Int → Int → Bool → Option β), f35_1 20000 s K = K v1 v2 v3 v4 (decide (isH s))) ∧ (isH s → v1 = g1 (toInts (opn 8 s).1) ∧ v2 = g2 (toInts (opn 8 s).1) ∧ v3 = g3 (toInts (opn 8 s).1) ∧ v4 = g4 (toInts (opn 8 s).1)) := by
  have hos := opn_size 8 s
  have hl := toInts_size (opn 8 s).1
  have hb := toInts_r (opn 8 s).1
  by_cases hH : isH s
  · have h2 := hH.2
    refine ⟨g1 (toInts (opn 8 s).1), g2 (toInts (opn 8 s).1), g3 (toInts (opn 8 s).1), g4 (toInts (opn 8 s).1), fun {β} K => ?_, fun _ => ⟨rfl, rfl, rfl, rfl⟩⟩
    rw [f35_1, openP, f57_1, ct (by omega), List.nil_append]
    refine (numOK (w := 8) (by omega) (by omega) (by omega) (by omega) hb _).trans ?_
    refine (numOK (w := 4) (by omega) (by omega) (by simp; omega) (by simp; omega) (drop_r 8 hb) _).trans ?_
    refine (numOK (w := 4) (by omega) (by omega) (by simp; omega) (by simp; omega) (drop_r 4 (drop_r 8 hb)) _).trans ?_
    refine (numOK (w := 4) (by omega) (by omega) (by simp; omega) (by simp; omega) (drop_r 4 (drop_r 4 (drop_r 8 hb))) _).trans ?_
    rw [hH.1, show ((0 : Int) == 0) = true from rfl, cond_true, decide_eq_true hH, show (((opn 8 s).1.size : Int) == 20) = true by rw [h2]; rfl]
    rfl
  · obtain ⟨v1, e1, l1, k1, p1, q1⟩ := numE (w := 8) (e := 0) (l := toInts (opn 8 s).1) (by omega) (by omega) (by omega) hb
    obtain ⟨v2, e2, l2, k2, p2, q2⟩ := numE (w := 4) (e := e1) (l := l1) (by omega) (by omega) p1 q1
    obtain ⟨v3, e3, l3, k3, p3, q3⟩ := numE (w := 4) (e := e2) (l := l2) (by omega) (by omega) p2 q2
    obtain ⟨v4, e4, l4, k4, p4, q4⟩ := numE (w := 4) (e := e3) (l := l3) (by omega) (by omega) p3 q3
    refine ⟨v1, v2, v3, v4, fun {β} K => ?_, fun hh => (hH hh).elim⟩
    rw [f35_1, openP, f57_1, ct (by omega), List.nil_append]
    refine (k1 _).trans ?_
    refine (k2 _).trans ?_
    refine (k3 _).trans ?_
    refine (k4 _).trans ?_
    rw [decide_eq_false hH]
    by_cases h1 : (opn 8 s).2 = 0
    · have h2 : ¬ (opn 8 s).1.size = 20 := fun h => hH ⟨h1, h⟩
      rw [h1, show ((0 : Int) == 0) = true from rfl, cond_true, show (((opn 8 s).1.size : Int) == 20) = false by simp; omega]
    · rw [show ((opn 8 s).2 == 0) = false by simp [h1], cond_false]

/-! ### Append -/

/-- What Append comes to: an entry's numbers, why not, and the disk. -/
def cwS (n f c u k e i a : Int) (b : Bool) (d : Int) (l : List ByteArray) (w : WL) : Int × Int × ByteArray × St :=
  if ¬ rt n f c u then (0, 0, ByteArray.empty, 12, a, b, d, l, w)
  else if k < 0 ∨ k ≥ c then (0, 0, ByteArray.empty, 11, a, b, d, l, w)
  else if ¬ (0 ≤ i ∧ i < n) then (0, 0, ByteArray.empty, 3, a, b, d, l, w)
  else if (rd (6 + i) b l w).2 ≠ 0 then (0, 0, ByteArray.empty, (rd (6 + i) b l w).2, a, b, d, l, w)
  else if (svS (6 + n + nodes n f c u + (2 * k + 1)) (rd (6 + i) b l w).1 a b d l w).1 ≠ 0 then (0, 0, ByteArray.empty, svS (6 + n + nodes n f c u + (2 * k + 1)) (rd (6 + i) b l w).1 a b d l w)
  else let s1 := svS (6 + n + nodes n f c u + (2 * k + 1)) (rd (6 + i) b l w).1 a b d l w
    let s2 := svS (6 + n + nodes n f c u + 2 * k) (hdB e k i (crc (toInts (rd (6 + i) b l w).1))) s1.2.1 s1.2.2.1 s1.2.2.2.1 s1.2.2.2.2.1 s1.2.2.2.2.2
    if s2.1 ≠ 0 then (0, 0, ByteArray.empty, s2) else (e, i, (rd (6 + i) b l w).1, s2)

def app9 {β : Type} (K : Int → Int → ByteArray → Int → Int → Bool → Int → List ByteArray → WL → Option β) (s : Int × Int × ByteArray × St) : Option β :=
  K s.1 s.2.1 s.2.2.1 s.2.2.2.1 s.2.2.2.2.1 s.2.2.2.2.2.1 s.2.2.2.2.2.2.1 s.2.2.2.2.2.2.2.1 s.2.2.2.2.2.2.2.2

theorem cwrP {β : Type} {m q : Nat} {x a d : Int} {t : ByteArray} {b : Bool} {l : List ByteArray} {w : WL} (h : DS m q a d l w) (hq : q < 299) {K : Int → Int → Bool → Int → List ByteArray → WL → Option β} :
    f30_1 20000 x t a b d l w K = app K (svS x t a b d l w) := by
  rw [f30_1]
  exact svS_P (K := K) h hq

theorem cwP {β : Type} {m q : Nat} {n f c u k e i a d : Int} {b : Bool} {l : List ByteArray} {w : WL} (h : DS m q a d l w) (hq : q < 290) (h64 : (rd (6 + i) b l w).1.size ≤ 100) {K : Int → Int → ByteArray → Int → Int → Bool → Int → List ByteArray → WL → Option β} :
    f9_1 20000 n f c u k e i a b d l w K = app9 K (cwS n f c u k e i a b d l w) := by
  rw [f9_1, right46, cwS]
  by_cases hr : rt n f c u
  · have hn := hr.1
    have hc := hr.2.2.1
    have hno := nodes_ok n f c u
    rw [decide_eq_true hr, Bool.not_true, cond_false, if_neg (fun hh => hh hr)]
    by_cases h1 : k < 0
    · rw [ct h1, if_pos (Or.inl h1)]; rfl
    · by_cases h2 : k ≥ c
      · rw [cf h1, ct h2, if_pos (Or.inr h2)]; rfl
      · rw [cf h1, cf h2, if_neg (show ¬ (k < 0 ∨ k ≥ c) by omega), dataP, dat]
        by_cases h3 : 0 ≤ i ∧ i < n
        · rw [if_pos ⟨hr, h3⟩, if_neg (fun hh => hh h3), cf (by omega), dataP, dat, if_pos ⟨hr, h3⟩, readP (by omega) h]
          by_cases h4 : (rd (6 + i) b l w).2 = 0
          · have hcr := crc_r (toInts (rd (6 + i) b l w).1)
            have htl := toInts_size (rd (6 + i) b l w).1
            rw [bnf h4, cond_false, if_neg (fun hh => hh h4), areaP (.inl rfl), if_pos rfl, are, w64 (x := 2 * k) (by omega) (by omega), w64 (x := 2 * k + 1) (by omega) (by omega), if_pos (show rt n f c u ∧ 0 ≤ 2 * k + 1 ∧ 2 * k + 1 < 2 * c from ⟨hr, by omega, by omega⟩), cwrP h (by omega), app]
            generalize hs1 : svS (6 + n + nodes n f c u + (2 * k + 1)) (rd (6 + i) b l w).1 a b d l w = s1
            have h' := svS_ok (x := 6 + n + nodes n f c u + (2 * k + 1)) (t := (rd (6 + i) b l w).1) (b := b) h (by omega)
            rw [hs1] at h'
            by_cases h5 : s1.1 = 0
            · have hmk : mkR 8 (ofInts (hdL e k i (crc (toInts (rd (6 + i) b l w).1)))) = (hdB e k i (crc (toInts (rd (6 + i) b l w).1)), 0) := by rw [mkR, if_neg (by omega), if_neg (by rw [oi_size, hdL_len]; omega)]; rfl
              have hbig := big60
              rw [bnf h5, cond_false, if_neg (fun hh => hh h5), f33_1, crcP (by omega), wu64 (x := k) (by omega) (by omega), wu64 (x := i) (by omega) (by omega), wu64 (x := crc _) (by omega) (by omega), bodyP, makeP (by rw [oi_size, hdL_len]; omega), hmk, bnf rfl, cond_false, areaP (.inl rfl), if_pos rfl, are, if_pos (show rt n f c u ∧ 0 ≤ 2 * k ∧ 2 * k < 2 * c from ⟨hr, by omega, by omega⟩), cwrP h' (by omega), app]
              by_cases h6 : (svS (6 + n + nodes n f c u + 2 * k) (hdB e k i (crc (toInts (rd (6 + i) b l w).1))) s1.2.1 s1.2.2.1 s1.2.2.2.1 s1.2.2.2.2.1 s1.2.2.2.2.2).1 = 0
              · rw [bnf h6, cond_false]
                show _ = app9 K (if _ then _ else _)
                rw [if_neg (fun hh => hh h6), app9]
                simp only
                rw [h6]
              · rw [bnt h6, cond_true]
                show _ = app9 K (if _ then _ else _)
                rw [if_pos h6]; rfl
            · rw [bnt h5, cond_true, if_pos h5]; rfl
          · rw [bnt h4, cond_true, if_pos h4]; rfl
        · rw [if_neg (fun hh => h3 hh.2), ct (by omega), if_pos h3]; rfl
  · rw [decide_eq_false hr, Bool.not_false, cond_true, if_pos hr]; rfl

end Go.Proofs.YtlgopekjjkdkiaaDoor.X
end

section
/- Sectors that are kept: scanned; the code's. -/
namespace Go.Proofs.YtlgopekjjkdkiaaDoor.X
open Go Go.Proofs.YtlgopekjjkdkiaaDoor.Ev
set_option linter.unusedSectionVars false
variable [FZ]
set_option linter.unusedVariables false
set_option linter.unusedSimpArgs false

abbrev EL := List (Int × (Int × (Int × ByteArray)))

/-- The entries from the k-th on, m of them at most. -/
def scn (n B e : Int) (b : Bool) (l : List ByteArray) (w : WL) : Nat → Nat → EL → Int × EL
  | 0, _, out => (0, out)
  | m + 1, k, out =>
    if (rd (B + 2 * (k : Int)) b l w).2 ≠ 0 then ((rd (B + 2 * (k : Int)) b l w).2, [])
    else if ¬ isH (rd (B + 2 * (k : Int)) b l w).1 ∨ g1 (toInts (opn 8 (rd (B + 2 * (k : Int)) b l w).1).1) ≠ e ∨ g2 (toInts (opn 8 (rd (B + 2 * (k : Int)) b l w).1).1) ≠ (k : Int) ∨ g3 (toInts (opn 8 (rd (B + 2 * (k : Int)) b l w).1).1) ≥ n then (0, out)
    else if (rd (B + (2 * (k : Int) + 1)) b l w).2 ≠ 0 then ((rd (B + (2 * (k : Int) + 1)) b l w).2, [])
    else if crc (toInts (rd (B + (2 * (k : Int) + 1)) b l w).1) ≠ g4 (toInts (opn 8 (rd (B + 2 * (k : Int)) b l w).1).1) then (0, out)
    else scn n B e b l w m (k + 1) (out ++ [(0, (e, (g3 (toInts (opn 8 (rd (B + 2 * (k : Int)) b l w).1).1), (rd (B + (2 * (k : Int) + 1)) b l w).1)))])

theorem scnL {β : Type} {q p : Nat} {n f c u e a d : Int} {b : Bool} {l : List ByteArray} {w : WL} (hr : rt n f c u) (he : U64 e) (h : DS q p a d l w) (hsz : ∀ x, (rd x b l w).1.size ≤ 100) {K : Int → EL → Option β} :
    ∀ (m k fuel : Nat) (out : EL), ((m + k : Nat) : Int) = c → m < fuel → out.length ≤ k →
    f13_1_l5 20000 e c a b d l w n f c u (fun x29 x30 => K x29 []) (fun x31 x32 x33 x34 x35 => K 0 x31) (fun x36 x37 x38 x39 x40 x41 x42 x43 => K x36 []) (fun x44 x45 x46 x47 x48 x49 x50 => K 0 x44) (fun x51 => K 0 x51) fuel (k : Int) out =
      K (scn n (6 + n + nodes n f c u) e b l w m k out).1 (scn n (6 + n + nodes n f c u) e b l w m k out).2
  | _, _, 0, _, _, h, _ => by omega
  | 0, k, fuel + 1, out, hm, _, _ => by
    rw [f13_1_l5, cf (by omega)]; rfl
  | m + 1, k, fuel + 1, out, hm, hf, ho => by
    have hn := hr.1
    have hc := hr.2.2.1
    have hno := nodes_ok n f c u
    rw [f13_1_l5, ct (by omega), w64 (x := 2 * (k : Int)) (by omega) (by omega), areaP (.inl rfl), if_pos rfl, are, if_pos (show rt n f c u ∧ 0 ≤ 2 * (k : Int) ∧ 2 * (k : Int) < 2 * c from ⟨hr, by omega, by omega⟩), readP (by omega) h, scn]
    generalize rd (6 + n + nodes n f c u + 2 * (k : Int)) b l w = s1
    by_cases h1 : s1.2 = 0
    · rw [bnf h1, cond_false, if_neg (fun hh => hh h1)]
      obtain ⟨v1, v2, v3, v4, hv, hg⟩ := readH (s := s1.1)
      rw [hv]
      by_cases h2 : isH s1.1
      · obtain ⟨rfl, rfl, rfl, rfl⟩ := hg h2
        have hL : (toInts (opn 8 s1.1).1).length = 20 := by rw [toInts_size]; exact h2.2
        obtain ⟨r1, r2, r3, r4⟩ := g_r (toInts_r (opn 8 s1.1).1) hL
        generalize toInts (opn 8 s1.1).1 = L at r1 r2 r3 r4
        rw [decide_eq_true h2, Bool.not_true, cond_false]
        by_cases h3 : g1 L = e
        · rw [bnf h3, cond_false, wu64 (x := (k : Int)) (by omega) (by omega)]
          by_cases h4 : g2 L = (k : Int)
          · rw [bnf h4, cond_false, wu64 (x := n) (by omega) (by omega)]
            by_cases h5 : g3 L ≥ n
            · rw [ct h5, if_pos (.inr (.inr (.inr h5)))]
            · rw [cf h5, if_neg (show ¬ (¬ isH s1.1 ∨ g1 L ≠ e ∨ g2 L ≠ (k : Int) ∨ g3 L ≥ n) from fun hh => by
                rcases hh with hh | hh | hh | hh
                · exact hh h2
                · exact hh h3
                · exact hh h4
                · exact h5 hh), w64 (x := 2 * (k : Int) + 1) (by omega) (by omega), areaP (.inl rfl), if_pos rfl, are, if_pos (show rt n f c u ∧ 0 ≤ 2 * (k : Int) + 1 ∧ 2 * (k : Int) + 1 < 2 * c from ⟨hr, by omega, by omega⟩), readP (by omega) h]
              have hsz2 := hsz (6 + n + nodes n f c u + (2 * (k : Int) + 1))
              generalize rd (6 + n + nodes n f c u + (2 * (k : Int) + 1)) b l w = s2 at hsz2
              by_cases h6 : s2.2 = 0
              · have hcr := crc_r (toInts s2.1)
                have htl := toInts_size s2.1
                rw [bnf h6, cond_false, if_neg (fun hh => hh h6), w64 (x := g3 L) (by omega) (by omega), f33_1, crcP (by omega), wu64 (x := (k : Int)) (by omega) (by omega), wu64 (x := g3 L) (by omega) (by omega), wu64 (x := crc _) (by omega) (by omega), h3, h4, beq_self_eq_true, beq_self_eq_true, beq_self_eq_true, Bool.true_and, Bool.true_and, Bool.true_and]
                by_cases h7 : crc (toInts s2.1) = g4 L
                · rw [show (crc (toInts s2.1) == g4 L) = true by simp [h7], Bool.not_true, cond_false, if_neg (fun hh => hh h7), ct (by omega), w64 (x := (k : Int) + 1) (by omega) (by omega)]
                  have ih := scnL hr he h hsz (K := K) m (k + 1) fuel (out ++ [(0, (e, (g3 L, s2.1)))]) (by omega) (by omega) (by simp; omega)
                  push_cast at ih
                  exact ih
                · rw [show (crc (toInts s2.1) == g4 L) = false by simp [h7], Bool.not_false, cond_true, if_pos h7]
              · rw [bnt h6, cond_true, if_pos h6]
          · rw [bnt h4, cond_true, if_pos (.inr (.inr (.inl h4)))]
        · rw [bnt h3, cond_true, if_pos (.inr (.inl h3))]
      · rw [decide_eq_false h2, Bool.not_false, cond_true, if_pos (.inl h2)]
    · rw [bnt h1, cond_true, if_pos h1]

theorem scanP {β : Type} {q p : Nat} {n f c u e a d : Int} {b : Bool} {l : List ByteArray} {w : WL} (hr : rt n f c u) (he : U64 e) (h : DS q p a d l w) (hsz : ∀ x, (rd x b l w).1.size ≤ 100) {K : Int → EL → Option β} :
    f13_1 20000 n f c u e a b d l w K = K (scn n (6 + n + nodes n f c u) e b l w c.toNat 0 []).1 (scn n (6 + n + nodes n f c u) e b l w c.toNat 0 []).2 := by
  have hc := hr.2.2.1
  rw [f13_1, right46, decide_eq_true hr, Bool.not_true, cond_false]
  exact scnL hr he h hsz c.toNat 0 20000 [] (by omega) (by omega) (by simp)

end Go.Proofs.YtlgopekjjkdkiaaDoor.X
end

section
/- A disk with entries that are kept; a new disk; an entry more. -/
namespace Go.Proofs.YtlgopekjjkdkiaaDoor.X
open Go Go.Proofs.YtlgopekjjkdkiaaDoor.Ev
set_option linter.unusedSectionVars false
variable [FZ]
set_option linter.unusedVariables false
set_option linter.unusedSimpArgs false

/-! ### A new disk -/

theorem repL {β : Type} {m : Nat} {z : ByteArray} {v : List ByteArray} (hm : m ≤ 2000) {K : List ByteArray → Option β} : ∀ (fuel i : Nat), 1 ≤ i → i ≤ m → m - i < fuel →
    f23_1_l8 20000 v K fuel (i : Int) (List.replicate i z ++ List.replicate (m - i) ByteArray.empty) = K (List.replicate m z)
  | 0, i, _, _, h => by omega
  | fuel + 1, i, h1, h2, hf => by
    have hl : (List.replicate i z ++ List.replicate (m - i) ByteArray.empty).length = m := by simp; omega
    rw [f23_1_l8, hl]
    by_cases h : (i : Int) < (m : Int)
    · rw [ct h, ct ⟨by omega, by omega, by omega⟩, ct ⟨by omega, by omega, by omega⟩]
      have e1 : ((List.replicate i z ++ List.replicate (m - i) ByteArray.empty).drop 0).take (((i : Int) - 0).toNat) = List.replicate i z := by
        rw [List.drop_zero, show ((i : Int) - 0).toNat = i by omega]
        exact List.take_left' (by simp)
      have e2 : ((m : Int) - (i : Int)).toNat = m - i := by omega
      rw [e1, e2, List.length_replicate, show 0 + (i : Int).toNat = i by omega]
      have e3 : (List.replicate i z ++ List.replicate (m - i) ByteArray.empty).take i = List.replicate i z := List.take_left' (by simp)
      have e4 : (List.replicate i z ++ List.replicate (m - i) ByteArray.empty).drop (i + min i (m - i)) = List.replicate (m - (i + min i (m - i))) ByteArray.empty := by
        rw [← List.drop_drop, List.drop_left' (by simp), List.drop_replicate]
        congr 1; omega
      rw [e3, e4, List.take_replicate, ← List.append_assoc, List.replicate_append_replicate, w64 (by omega) (by omega)]
      have ih := repL hm (z := z) (v := v) (K := K) fuel (i + min i (m - i)) (by omega) (by omega) (by omega)
      rw [Nat.min_comm (m - i) i]
      push_cast at ih ⊢
      exact ih
    · have : m = i := by omega
      subst this
      rw [cf h]
      simp

theorem newP {β : Type} {m : Nat} (h1 : 1 ≤ m) (h2 : m ≤ 1200) {K0 : Option β} {K1 : List ByteArray → WL → Option β} : f7_1 20000 (m : Int) K0 K1 = K1 (List.replicate m Z64) [] := by
  have hz : ∀ K : ByteArray → Option β, f24_1 20000 K = K Z64 := fun K => by kernel_rfl
  have hmul : ∀ K : Int → Int → Option β, f42_1 20000 (IntKind.u64.wrap (([Z64].length : Nat) : Int)) (IntKind.u64.wrap (m : Int)) K = K 0 (m : Int) := by
    intro K
    rw [f42_1, f62_1, wu64 (x := (m : Int)) (by omega) (by omega)]
    have e1 : IntKind.u64.wrap (([Z64].length : Nat) : Int) = 1 := rfl
    rw [e1]
    have s1 : ishr .u64 1 32 = 0 := by decide
    have e : (2 : Int) ^ (min (32 : Int).toNat IntKind.u64.bits) = 4294967296 := by decide
    have s2 : ishr .u64 (m : Int) 32 = 0 := by rw [ishr, e, Int.fdiv_eq_ediv_of_nonneg _ (by omega)]; omega
    have a1 : iand .u64 1 4294967295 = 1 := by decide
    have a2 : iand .u64 (m : Int) 4294967295 = (m : Int) := by
      have := and64 (A := m) (B := 4294967295) (by omega) (by decide)
      rw [show (4294967295 : Int) = ((4294967295 : Nat) : Int) from rfl, this]
      have : m &&& (2 ^ 32 - 1) = m % 2 ^ 32 := Nat.and_two_pow_sub_one_eq_mod m 32
      rw [show (4294967295 : Nat) = 2 ^ 32 - 1 from rfl, this, Nat.mod_eq_of_lt (by omega)]
    have a0 : iand .u64 0 4294967295 = 0 := by decide
    have z0 : ishr .u64 0 32 = 0 := by decide
    simp only [s1, s2, a1, a2, Int.zero_mul, Int.mul_zero, Int.one_mul, wu64 (x := (0 : Int)) (by omega) (by omega), wu64 (x := (m : Int)) (by omega) (by omega), z0, a0, Int.zero_add, Int.add_zero]
  rw [f7_1, cf (by omega), cf (by omega), hz, f23_1, cf (by omega), hmul, cf (by omega), cf (by omega), w64 (x := (m : Int)) (by omega) (by omega), ct ⟨by omega, by omega, by omega, by omega⟩]
  have hs : (List.replicate (m : Int).toNat ByteArray.empty).take 0 ++ ([Z64].take (List.replicate (m : Int).toNat ByteArray.empty).length ++ (List.replicate (m : Int).toNat ByteArray.empty).drop (0 + min [Z64].length (List.replicate (m : Int).toNat ByteArray.empty).length)) = List.replicate 1 Z64 ++ List.replicate (m - 1) ByteArray.empty := by
    rw [List.take_zero, List.nil_append, List.length_replicate, show (m : Int).toNat = m by omega, List.take_of_length_le (by simp; omega), List.drop_replicate]
    show [Z64] ++ List.replicate (m - (0 + min 1 m)) ByteArray.empty = _
    rw [show 0 + min 1 m = 1 by omega]; rfl
  rw [hs, List.length_replicate, show (m : Int).toNat = m by omega, show ((min [Z64].length m : Nat) : Int) = ((1 : Nat) : Int) by simp; omega]
  exact repL (by omega) 20000 1 (by omega) (by omega) (by omega)

/-! ### Lists of entries -/

theorem entL {β : Type} {E : EL} (hl : E.length ≤ 10000) {K0 K1 : Option β} : ∀ (r : EL) (i k : Nat), E.drop i = r → i ≤ E.length → r.length < k → f14_1_l4 20000 E E K0 K1 k (i : Int) = K1
  | [], i, 0, _, _, hk => by simp at hk
  | _ :: _, i, 0, _, _, hk => by simp at hk
  | [], i, k + 1, hd, hi, _ => by
    have := len_of_drop_nil hd hi
    rw [f14_1_l4, cf (by omega)]
  | p :: r, i, k + 1, hd, hi, hk => by
    obtain ⟨h1, h2, h3⟩ := getD_of_drop (d := ((0, (0, (0, ByteArray.empty))) : Int × (Int × (Int × ByteArray)))) hd
    rw [f14_1_l4, ct (by omega), ct (by omega), ct (by omega), ct (by omega), ct (by omega), show ∀ p : Int × (Int × (Int × ByteArray)), (!(p.1 == p.1 && (p.2.1 == p.2.1 && (p.2.2.1 == p.2.2.1 && p.2.2.2.toList == p.2.2.2.toList)))) = false from fun p => by simp, cond_false, w64 (by omega) (by omega)]
    exact entL hl r (i + 1) k h3 (by omega) (by simp at hk; omega)
theorem entP {β : Type} {E : EL} (hl : E.length ≤ 10000) {K : Bool → Option β} : f14_1 20000 E E K = K true := by
  rw [f14_1, bnf rfl, cond_false]
  exact entL hl E 0 20000 rfl (by omega) (by omega)

/-! ### A disk on which m entries are kept -/

noncomputable def cZ : Int := crc (toInts Z64)
theorem cZ_r : U32 cZ := crc_r _
theorem Z64_size : Z64.size = 64 := by rw [D_size, Z64_D]; simp

structure KI (n c B e : Int) (m : Nat) (E : EL) (l : List ByteArray) : Prop where
  len : (l.length : Int) = B + 2 * c
  el : E.length = m
  mc : (m : Int) ≤ c
  ent : ∀ j : Nat, j < m → ∃ i : Int, 0 ≤ i ∧ i < n ∧ E.drop j = (0, (e, (i, Z64))) :: E.drop (j + 1) ∧ l.getD (B + 2 * (j : Int)).toNat ByteArray.empty = hdB e j i cZ
  oth : ∀ x : Nat, x < l.length → (∀ j : Nat, j < m → (x : Int) ≠ B + 2 * (j : Int)) → l.getD x ByteArray.empty = Z64

theorem rd_nil' {x : Int} {l : List ByteArray} (hx : 0 ≤ x ∧ x < (l.length : Int)) : rd x false l [] = (l.getD x.toNat ByteArray.empty, 0) := by
  rw [rd, if_neg (by simp), if_pos hx, kp, if_pos hx]; rfl

theorem rd_sz {l : List ByteArray} (h : ∀ x : Nat, x < l.length → (l.getD x ByteArray.empty).size ≤ 100) : ∀ x, (rd x false l []).1.size ≤ 100 := by
  intro x
  by_cases hx : 0 ≤ x ∧ x < (l.length : Int)
  · rw [rd_nil' hx]; exact h _ (by omega)
  · rw [rd, if_neg (by simp), if_neg hx]
    show ByteArray.empty.size ≤ 100; decide

section
variable {n c B e : Int} {m : Nat} {E : EL} {l : List ByteArray}

theorem KI.sz (h : KI n c B e m E l) : ∀ x : Nat, x < l.length → (l.getD x ByteArray.empty).size ≤ 100 := by
  intro x hx
  by_cases hj : ∃ j : Nat, j < m ∧ (x : Int) = B + 2 * (j : Int)
  · obtain ⟨j, h1, h2⟩ := hj
    obtain ⟨i, _, _, _, h5⟩ := h.ent j h1
    have : x = (B + 2 * (j : Int)).toNat := by omega
    rw [this, h5, hdB_size]; omega
  · rw [h.oth x hx (fun j h1 h2 => hj ⟨j, h1, h2⟩), Z64_size]; omega

theorem KI.scn_eq (h : KI n c B e m E l) (hB : 0 ≤ B) (he : U64 e) (hn : n ≤ 128) (hc : c ≤ 64) : ∀ (d j k : Nat), d + j = m → ((k + j : Nat) : Int) = c → ∀ out, out ++ E.drop j = E → scn n B e false l [] k j out = (0, E)
  | 0, j, 0, hd, hk, out, ho => by
    have : E.drop j = [] := List.drop_eq_nil_of_le (by rw [h.el]; omega)
    rw [this, List.append_nil] at ho
    rw [scn, ho]
  | 0, j, k + 1, hd, hk, out, ho => by
    have hl := h.len
    have : E.drop j = [] := List.drop_eq_nil_of_le (by rw [h.el]; omega)
    rw [this, List.append_nil] at ho
    have hx : 0 ≤ B + 2 * (j : Int) ∧ B + 2 * (j : Int) < (l.length : Int) := by omega
    have hz : l.getD (B + 2 * (j : Int)).toNat ByteArray.empty = Z64 := h.oth _ (by omega) (fun j' h1 h2 => by omega)
    rw [scn, rd_nil' hx, hz]
    show (if (0 : Int) ≠ 0 then _ else if ¬ isH Z64 ∨ _ then _ else _) = _
    rw [if_neg (by simp), if_pos (.inl fun hh => opn_zero 8 hh.1), ho]
  | d + 1, j, 0, hd, hk, out, ho => by have := h.mc; omega
  | d + 1, j, k + 1, hd, hk, out, ho => by
    have hl := h.len
    obtain ⟨i, h1, h2, h3, h4⟩ := h.ent j (by omega)
    have hx : 0 ≤ B + 2 * (j : Int) ∧ B + 2 * (j : Int) < (l.length : Int) := by omega
    have hx2 : 0 ≤ B + (2 * (j : Int) + 1) ∧ B + (2 * (j : Int) + 1) < (l.length : Int) := by omega
    have hz : l.getD (B + (2 * (j : Int) + 1)).toNat ByteArray.empty = Z64 := h.oth _ (by omega) (fun j' h1 h2 => by omega)
    have ho8 : opn 8 (hdB e j i cZ) = (ofInts (hdL e j i cZ), 0) := mkB_open (by omega) (by omega) (by rw [oi_size, hdL_len]; omega)
    have hH : isH (hdB e j i cZ) := by
      unfold isH
      rw [ho8]
      exact ⟨rfl, by show (ofInts (hdL e j i cZ)).size = 20; rw [oi_size, hdL_len]⟩
    obtain ⟨t1, t2, t3, t4⟩ := g_hd (e := e) (k := j) (i := i) (s := cZ) he (by omega) (by omega) cZ_r
    have hti : toInts (opn 8 (hdB e j i cZ)).1 = hdL e j i cZ := by rw [ho8]; exact toInts_ofInts (hdL_r _ _ _ _)
    rw [scn, rd_nil' hx, h4, rd_nil' hx2, hz]
    show (if (0 : Int) ≠ 0 then _ else if ¬ isH (hdB e j i cZ) ∨ g1 (toInts (opn 8 (hdB e j i cZ)).1) ≠ e ∨ g2 (toInts (opn 8 (hdB e j i cZ)).1) ≠ (j : Int) ∨ g3 (toInts (opn 8 (hdB e j i cZ)).1) ≥ n then _ else if (0 : Int) ≠ 0 then _ else if cZ ≠ g4 (toInts (opn 8 (hdB e j i cZ)).1) then _ else scn n B e false l [] k (j + 1) (out ++ [(0, (e, (g3 (toInts (opn 8 (hdB e j i cZ)).1), Z64)))])) = _
    rw [hti, t1, t2, t3, t4, if_neg (by simp), if_neg (fun hh => by
      rcases hh with hh | hh | hh | hh
      · exact hh hH
      · exact hh rfl
      · exact hh rfl
      · omega), if_neg (by simp), if_neg (fun hh => hh rfl)]
    exact KI.scn_eq h hB he hn hc d (j + 1) k (by omega) (by omega) _ (by rw [List.append_assoc]; rw [h3] at ho; exact ho)

/-- One entry more. -/
theorem KI.more (h : KI n c B e m E l) (hB : 0 ≤ B) (hm : (m : Int) < c) {i : Int} (hi : 0 ≤ i ∧ i < n) : KI n c B e (m + 1) (E ++ [(0, (e, (i, Z64)))]) (put1 l (B + 2 * (m : Int), hdB e m i cZ)) := by
  have hl := h.len
  refine ⟨by rw [put1_len]; exact hl, by simp [h.el], by omega, fun j hj => ?_, fun x hx hno => ?_⟩
  · rcases Nat.lt_or_ge j m with h1 | h1
    · obtain ⟨i', q1, q2, q3, q4⟩ := h.ent j h1
      refine ⟨i', q1, q2, ?_, ?_⟩
      · rw [List.drop_append_of_le_length (by rw [h.el]; omega), List.drop_append_of_le_length (by rw [h.el]; omega), q3]; rfl
      · rw [put1]
        show (l.set (B + 2 * (m : Int)).toNat _).getD _ _ = _
        rw [List.getD_eq_getElem?_getD, List.getElem?_set_ne (by omega), ← List.getD_eq_getElem?_getD, q4]
    · have e : j = m := by omega
      subst e
      refine ⟨i, hi.1, hi.2, ?_, ?_⟩
      · have el := h.el
        rw [List.drop_left' el, List.drop_eq_nil_of_le (by simp; omega)]
      · rw [put1]
        show (l.set (B + 2 * (j : Int)).toNat _).getD _ _ = _
        rw [List.getD_eq_getElem?_getD, List.getElem?_set_self (by omega)]; rfl
  · rw [put1_len] at hx
    rw [put1]
    show (l.set (B + 2 * (m : Int)).toNat _).getD _ _ = _
    rw [List.getD_eq_getElem?_getD, List.getElem?_set_ne (by have := hno m (by omega); omega), ← List.getD_eq_getElem?_getD]
    exact h.oth x hx fun j hj => hno j (by omega)

/-- Zeros in the place of zeros. -/
theorem put_same {x : Int} {t : ByteArray} (hx : 0 ≤ x ∧ x < (l.length : Int)) (ht : l.getD x.toNat ByteArray.empty = t) : put1 l (x, t) = l := by
  rw [put1]
  show l.set x.toNat t = l
  have hlt : x.toNat < l.length := by omega
  have e : l[x.toNat] = t := by
    rw [List.getD_eq_getElem?_getD, List.getElem?_eq_getElem hlt] at ht
    exact ht
  rw [← e]
  exact List.set_getElem_self hlt

theorem svS_at {x t a d} (hx : 0 ≤ x ∧ x < (l.length : Int)) (ht : t.size = 64) :
    (a = -1 → svS x t a false d l [] = (0, -1, false, d + 1 + 1, put1 l (x, t), [])) ∧ (a = 0 → svS x t a false d l [] = (5, -1, true, d, l, [])) ∧
    (a = 1 → svS x t a false d l [] = (5, -1, true, d + 1, l, [(x, t)])) ∧ (2 ≤ a → svS x t a false d l [] = (0, a - 1 - 1, false, d + 1 + 1, put1 l (x, t), [])) := by
  have hw : ∀ a, a ≠ 0 → wS x t a false d l [] = (0, dec a, false, d + 1, [(x, t)]) := fun a ha => by
    rw [wS, if_neg (by simp), if_neg (fun hh => hh hx), if_neg (fun hh => hh ht), if_neg ha]; rfl
  refine ⟨?_, ?_, ?_, ?_⟩
  · rintro rfl
    rw [svS, hw _ (by omega), if_neg (by simp), fS, if_neg (by simp)]; rfl
  · rintro rfl
    have : wS x t 0 false d l [] = (5, -1, true, d, []) := by rw [wS, if_neg (by simp), if_neg (fun hh => hh hx), if_neg (fun hh => hh ht), if_pos rfl]
    rw [svS, this, if_pos (by simp)]
  · rintro rfl
    rw [svS, hw _ (by omega), if_neg (by simp), fS, if_neg (by simp)]; rfl
  · intro h2
    have e1 : dec a = a - 1 := by rw [dec, if_neg (by omega)]
    have e2 : dec (a - 1) = a - 1 - 1 := by rw [dec, if_neg (by omega)]
    rw [svS, hw _ (by omega), if_neg (by simp)]
    show fS (dec a) false (d + 1) l [(x, t)] = _
    rw [e1, fS, if_neg (by simp), if_neg (by omega), e2]; rfl
end

end Go.Proofs.YtlgopekjjkdkiaaDoor.X
end

section
/- Trees' shapes: parents and children over the list of the levels; any seat. -/
namespace Go.Proofs.YtlgopekjjkdkiaaDoor.X
open Go Go.Proofs.YtlgopekjjkdkiaaDoor.Ev
set_option linter.unusedSectionVars false
variable [FZ]
set_option linter.unusedVariables false
set_option linter.unusedSimpArgs false

/-- Children of a node, by the levels from a number on. -/
def kids (f : Int) (from_ a q : Int) : Nat → List Int
  | 0 => []
  | k + 1 => kids f from_ a q k ++ (if q * f + k < a then [from_ + (q * f + k)] else [])

def chl (f : Int) (node : Int) : Int → List Int → List Int
  | s, a :: b :: r => if s + a ≤ node ∧ node < s + a + b then kids f s a (node - (s + a)) f.toNat else chl f node (s + a) (b :: r)
  | _, _ => []

def par (f : Int) (node : Int) : Int → List Int → Int
  | s, a :: b :: r => if s ≤ node ∧ node < s + a then s + a + (node - s) / f else par f node (s + a) (b :: r)
  | _, _ => -1

/-- Each level is the one below it, over f, rounded up; the last one is 1. -/
def chain (f : Int) : List Int → Prop
  | a :: b :: r => 1 < a ∧ b = (a + f - 1) / f ∧ chain f (b :: r)
  | [a] => a = 1
  | [] => True

theorem chain_lv {f : Int} (hf : 2 ≤ f ∧ f ≤ 4) : ∀ (k : Nat) (n : Int), 1 ≤ n → n ≤ 128 → n < k → chain f (n :: lv k n f)
  | 0, n, h1, h2, h3 => by omega
  | k + 1, n, h1, h2, h3 => by
    simp only [lv]
    by_cases hn : n > 1
    · obtain ⟨e, g1, g2⟩ := step_eq hf hn h2
      rw [if_pos hn]
      exact ⟨hn, rfl, chain_lv hf k _ g1 (by omega) (by omega)⟩
    · rw [if_neg hn]
      show n = 1
      omega

/-- The level of a node: its number in the list and the number of the first node there. -/
def lvl (node : Int) : Int → Nat → List Int → Option (Nat × Int)
  | s, i, a :: r => if s ≤ node ∧ node < s + a then some (i, s) else lvl node (s + a) (i + 1) r
  | _, _, [] => none

/-- What is at hand in the middle of a list. -/
theorem at_drop {l r : List Int} {x : Int} {i : Nat} (hd : l.drop i = x :: r) : i < l.length ∧ l.getD (0 + (i : Int).toNat) 0 = x ∧ l.drop (i + 1) = r := by
  have hlen : l.length - i = r.length + 1 := by
    have := congrArg List.length hd
    simpa using this
  have hx : l[i]? = some x := by
    have := congrArg (·[0]?) hd
    simpa using this
  refine ⟨by omega, ?_, ?_⟩
  · rw [List.getD_eq_getElem?_getD]; simp [hx]
  · rw [← List.drop_drop, hd]; rfl

/-- What is known of a level that was found. -/
theorem lvl_spec {node : Int} : ∀ (r : List Int) (s : Int) (i j : Nat) (t : Int), lvl node s i r = some (j, t) → ∃ p a q, r = p ++ a :: q ∧ j = i + p.length ∧ t = s + sumI p ∧ t ≤ node ∧ node < t + a
  | [], s, i, j, t, h => by simp [lvl] at h
  | x :: r, s, i, j, t, h => by
    simp only [lvl] at h
    split at h
    · rename_i hn
      simp only [Option.some.injEq, Prod.mk.injEq] at h
      obtain ⟨rfl, rfl⟩ := h
      exact ⟨[], x, r, rfl, by simp, by simp [sumI], hn.1, hn.2⟩
    · obtain ⟨p, a, q, h1, h2, h3, h4, h5⟩ := lvl_spec r _ _ _ _ h
      refine ⟨x :: p, a, q, by rw [h1]; rfl, by simp; omega, by simp only [sumI]; omega, h4, h5⟩

theorem lvl_none {node : Int} : ∀ (r : List Int) (s : Int) (i : Nat), (∀ y ∈ r, 1 ≤ y) → (lvl node s i r = none ↔ ¬ (s ≤ node ∧ node < s + sumI r))
  | [], s, i, h => by
    simp only [lvl, sumI, true_iff]
    omega
  | x :: r, s, i, h => by
    have h0 := h x (by simp)
    have h1 : 0 ≤ sumI r := by
      have : ∀ (l : List Int), (∀ y ∈ l, 1 ≤ y) → 0 ≤ sumI l := by
        intro l
        induction l with
        | nil => intro _; simp [sumI]
        | cons a l ih => intro hl; have := hl a (by simp); have := ih fun y hy => hl y (by simp [hy]); simp only [sumI]; omega
      exact this r fun y hy => h y (by simp [hy])
    simp only [lvl, sumI]
    split
    · simp; omega
    · rw [lvl_none r _ _ fun y hy => h y (by simp [hy])]
      omega

theorem kids_len (f from_ a q : Int) : ∀ k, (kids f from_ a q k).length ≤ k
  | 0 => by simp [kids]
  | k + 1 => by
    have := kids_len f from_ a q k
    simp only [kids, List.length_append]
    split <;> simp <;> omega

theorem mul_small {f q : Int} (hf : 2 ≤ f ∧ f ≤ 4) (hq : 0 ≤ q ∧ q < 128) : 0 ≤ q * f ∧ q * f < 512 := by
  have : f = 2 ∨ f = 3 ∨ f = 4 := by omega
  rcases this with rfl | rfl | rfl <;> omega

/-- A node's children, by the list of the levels. -/
def chs (f node : Int) (L : List Int) : List Int := match lvl node 0 0 L with
  | some (j + 1, t) => kids f (t - L.getD j 0) (L.getD j 0) (node - t) f.toNat
  | _ => []

theorem mem_getD {l : List Int} {j : Nat} (h : j < l.length) : l.getD j 0 ∈ l := by
  rw [List.getD_eq_getElem?_getD, List.getElem?_eq_getElem h]; simp

end Go.Proofs.YtlgopekjjkdkiaaDoor.X
end

section
/- Trees' shapes: document and code reckon the same children; any seat. -/
namespace Go.Proofs.YtlgopekjjkdkiaaDoor.X
open Go Go.Proofs.YtlgopekjjkdkiaaDoor.Ev
set_option linter.unusedSectionVars false
variable [FZ]
set_option linter.unusedVariables false
set_option linter.unusedSimpArgs false

theorem kids_mem0 {f s a q x : Int} : ∀ k : Nat, x ∈ kids f s a q k ↔ ∃ i : Nat, i < k ∧ q * f + i < a ∧ x = s + (q * f + i)
  | 0 => by simp [kids]
  | k + 1 => by
    simp only [kids, List.mem_append, kids_mem0 k]
    constructor
    · rintro (⟨i, h1, h2, h3⟩ | h)
      · exact ⟨i, by omega, h2, h3⟩
      · split at h
        · simp at h
          exact ⟨k, by omega, by assumption, h⟩
        · simp at h
    · rintro ⟨i, h1, h2, h3⟩
      by_cases hi : i = k
      · subst hi
        exact Or.inr (by rw [if_pos h2]; simp [h3])
      · exact Or.inl ⟨i, by omega, h2, h3⟩

theorem kids_mem {f s a q x : Int} (hf : 2 ≤ f ∧ f ≤ 4) (hq : 0 ≤ q) : x ∈ kids f s a q f.toNat ↔ s ≤ x ∧ x < s + a ∧ (x - s) / f = q := by
  rw [kids_mem0]
  have : f = 2 ∨ f = 3 ∨ f = 4 := by omega
  constructor
  · rintro ⟨i, h1, h2, h3⟩
    rcases this with rfl | rfl | rfl <;> simp at h1 <;> omega
  · rintro ⟨h1, h2, h3⟩
    refine ⟨((x - s) - q * f).toNat, ?_⟩
    rcases this with rfl | rfl | rfl <;> (simp only [Int.reduceToNat]; omega)

theorem kids_nodup {f s a q : Int} : ∀ k : Nat, (kids f s a q k).Pairwise (· < ·)
  | 0 => by simp [kids]
  | k + 1 => by
    simp only [kids]
    rw [List.pairwise_append]
    refine ⟨kids_nodup k, by split <;> simp, fun x hx y hy => ?_⟩
    obtain ⟨i, h1, h2, h3⟩ := (kids_mem0 k).1 hx
    split at hy
    · simp at hy; omega
    · simp at hy

def pos (L : List Int) : Prop := ∀ y ∈ L, 1 ≤ y ∧ y ≤ 128

theorem pos_tl {a : Int} {r : List Int} (h : pos (a :: r)) : (1 ≤ a ∧ a ≤ 128) ∧ pos r := ⟨h a (by simp), fun y hy => h y (by simp [hy])⟩

theorem sum_nn {L : List Int} (h : pos L) : 0 ≤ sumI L := by have := (sumI_ok L h).1; omega

theorem par_lt {f x : Int} : ∀ (L : List Int) (s : Int), pos L → x < s → par f x s L = -1
  | [], s, h, hx => rfl
  | [a], s, h, hx => rfl
  | a :: b :: r, s, h, hx => by
    have ha := (pos_tl h).1
    simp only [par]
    rw [if_neg (by omega)]
    exact par_lt (b :: r) _ (pos_tl h).2 (by omega)

theorem div_up {f a b y : Int} (hf : 2 ≤ f ∧ f ≤ 4) (hb : b = (a + f - 1) / f) (hy : 0 ≤ y ∧ y < a) : 0 ≤ y / f ∧ y / f < b := by
  have : f = 2 ∨ f = 3 ∨ f = 4 := by omega
  rcases this with rfl | rfl | rfl <;> omega

theorem par_bd {f x : Int} (hf : 2 ≤ f ∧ f ≤ 4) : ∀ (r : List Int) (a s : Int), pos (a :: r) → chain f (a :: r) → par f x s (a :: r) = -1 ∨ (s ≤ x ∧ x < par f x s (a :: r) ∧ s + a ≤ par f x s (a :: r) ∧ par f x s (a :: r) < s + sumI (a :: r))
  | [], a, s, h, hc => Or.inl rfl
  | b :: r, a, s, h, hc => by
    have ha := (pos_tl h).1
    have hb := (pos_tl (pos_tl h).2).1
    have hs := sum_nn (pos_tl (pos_tl h).2).2
    obtain ⟨h1, h2, h3⟩ := hc
    simp only [par]
    split
    · rename_i hx
      have := div_up (y := x - s) hf h2 (by omega)
      simp only [sumI]
      exact Or.inr (by omega)
    · rcases par_bd (x := x) hf r b (s + a) (pos_tl h).2 h3 with h4 | h4
      · exact Or.inl h4
      · refine Or.inr ?_
        simp only [sumI] at h4 ⊢
        omega

theorem mem_chl {f x k : Int} (hf : 2 ≤ f ∧ f ≤ 4) : ∀ (r : List Int) (a s : Int), pos (a :: r) → chain f (a :: r) → 0 ≤ s → 0 ≤ k → (x ∈ chl f k s (a :: r) ↔ par f x s (a :: r) = k)
  | [], a, s, h, hc, hs, hk => by simp [chl, par]; omega
  | b :: r, a, s, h, hc, hs, hk => by
    have ha := (pos_tl h).1
    have hb := (pos_tl (pos_tl h).2).1
    obtain ⟨h1, h2, h3⟩ := hc
    have hbd := par_bd (x := x) hf r b (s + a) (pos_tl h).2 h3
    have ih := mem_chl (x := x) (k := k) hf r b (s + a) (pos_tl h).2 h3 (by omega) hk
    simp only [par, chl]
    by_cases hq : s + a ≤ k ∧ k < s + a + b
    · rw [if_pos hq, kids_mem hf (by omega)]
      by_cases hx : s ≤ x ∧ x < s + a
      · rw [if_pos hx]; omega
      · rw [if_neg hx]; omega
    · rw [if_neg hq, ih]
      by_cases hx : s ≤ x ∧ x < s + a
      · rw [if_pos hx]
        have := div_up (y := x - s) hf h2 (by omega)
        have h0 := par_lt (f := f) (x := x) (b :: r) (s + a) (pos_tl h).2 (by omega)
        rw [h0]; omega
      · rw [if_neg hx]

theorem lvl_lt {x : Int} : ∀ (L : List Int) (s : Int) (i : Nat), pos L → x < s → lvl x s i L = none
  | [], _, _, _, _ => rfl
  | a :: r, s, i, h, hx => by
    have ha := (pos_tl h).1
    simp only [lvl]
    rw [if_neg (by omega)]
    exact lvl_lt r _ _ (pos_tl h).2 (by omega)

theorem chl_lvl {f x : Int} (L : List Int) : ∀ (r : List Int) (a s : Int) (i : Nat), L.drop i = a :: r →
    chl f x s (a :: r) = match lvl x (s + a) (i + 1) r with | some (j, t) => kids f (t - L.getD (j - 1) 0) (L.getD (j - 1) 0) (x - t) f.toNat | none => []
  | [], a, s, i, h => rfl
  | b :: r, a, s, i, h => by
    obtain ⟨h1, h2, h3⟩ := at_drop h
    have h4 : L.getD i 0 = a := by simpa using h2
    simp only [chl, lvl]
    by_cases hq : s + a ≤ x ∧ x < s + a + b
    · rw [if_pos hq, if_pos hq]
      simp only [Nat.add_sub_cancel, h4]
      rw [show s + a - a = s by omega]
    · rw [if_neg hq, if_neg hq]
      exact chl_lvl L r b (s + a) (i + 1) h3

theorem chs_chl {f x : Int} : ∀ L : List Int, pos L → chs f x L = chl f x 0 L
  | [], h => rfl
  | a :: r, h => by
    rw [chl_lvl (a :: r) r a 0 0 rfl]
    unfold chs
    simp only [lvl]
    by_cases hq : (0 : Int) ≤ x ∧ x < 0 + a
    · rw [if_pos hq, lvl_lt r _ _ (pos_tl h).2 (by omega)]
    · rw [if_neg hq]
      cases e : lvl x (0 + a) (0 + 1) r with
      | none => rfl
      | some v =>
        obtain ⟨j, t⟩ := v
        obtain ⟨p, a', q, e1, e2, e3, e4, e5⟩ := lvl_spec _ _ _ _ _ e
        cases j with
        | zero => omega
        | succ j => simp

theorem lev_pos (n f c u : Int) : pos (levels n f c u) := (levels_ok n f c u).2

theorem levels_not {n f c u : Int} (h : ¬ rt n f c u) : levels n f c u = [] := by simp [levels, h]
theorem levels_cons {n f c u : Int} (h : rt n f c u) : ∃ r, levels n f c u = n :: r := ⟨_, by simp [levels, h]; rfl⟩

theorem lev_chain {n f c u : Int} : rt n f c u → chain f (levels n f c u) := fun h => by
  simp only [levels, h, if_true]
  have h1 := h.1
  exact chain_lv h.2.1 20000 n h1.1 h1.2 (by omega)

/-- The parent, by the levels. -/
def prn (n f c u x : Int) : Int := par f x 0 (levels n f c u)

theorem par_lvl {f x : Int} (hf : 2 ≤ f ∧ f ≤ 4) : ∀ (r : List Int) (a s : Int) (i : Nat), pos (a :: r) → chain f (a :: r) →
    par f x s (a :: r) = match lvl x s i (a :: r) with | some (j, t) => if x = s + sumI (a :: r) - 1 then -1 else t + (a :: r).getD (j - i) 0 + (x - t) / f | none => -1
  | [], a, s, i, h, hc => by
    have hc : a = 1 := hc
    subst hc
    have e1 : sumI [1] = 1 := rfl
    simp only [par, lvl]
    by_cases hx : s ≤ x ∧ x < s + 1
    · rw [if_pos hx]
      simp only
      rw [if_pos (by omega)]
    · rw [if_neg hx]
  | b :: r, a, s, i, h, hc => by
    have ha := (pos_tl h).1
    have hb := (pos_tl (pos_tl h).2).1
    have hs := sum_nn (pos_tl (pos_tl h).2).2
    obtain ⟨h1, h2, h3⟩ := hc
    rw [par, lvl]
    by_cases hx : s ≤ x ∧ x < s + a
    · have e1 : sumI (a :: b :: r) = a + (b + sumI r) := rfl
      rw [if_pos hx, if_pos hx]
      simp only
      rw [if_neg (by omega)]
      simp
    · rw [if_neg hx, if_neg hx, par_lvl hf r b (s + a) (i + 1) (pos_tl h).2 h3]
      cases e : lvl x (s + a) (i + 1) (b :: r) with
      | none => rfl
      | some v =>
        obtain ⟨j, t⟩ := v
        obtain ⟨p, a', q, e1, e2, e3, e4, e5⟩ := lvl_spec _ _ _ _ _ e
        simp only
        have g1 : s + sumI (a :: b :: r) - 1 = s + a + sumI (b :: r) - 1 := by simp only [sumI]; omega
        have g2 : (a :: b :: r).getD (j - i) 0 = (b :: r).getD (j - (i + 1)) 0 := by
          rw [show j - i = (j - (i + 1)) + 1 by omega]
          simp
        rw [g1, g2]

theorem chs_len (f x : Int) (L : List Int) : (chs f x L).length ≤ f.toNat := by
  unfold chs
  split
  · exact kids_len _ _ _ _ _
  · simp

theorem chs_mem {n f c u x k : Int} (h : rt n f c u) (hk : 0 ≤ k) : x ∈ chs f k (levels n f c u) ↔ prn n f c u x = k := by
  obtain ⟨r, hr⟩ := levels_cons h
  have hc := lev_chain h
  have hp := lev_pos n f c u
  rw [chs_chl _ hp, prn]
  rw [hr] at hc hp ⊢
  exact mem_chl h.2.1 r n 0 hp hc (by omega) hk

theorem prn_bd {n f c u x : Int} (h : rt n f c u) : prn n f c u x = -1 ∨ (0 ≤ x ∧ x < prn n f c u x ∧ n ≤ prn n f c u x ∧ prn n f c u x < nodes n f c u) := by
  obtain ⟨r, hr⟩ := levels_cons h
  have hc := lev_chain h
  have hp := lev_pos n f c u
  unfold nodes prn
  rw [hr] at hc hp ⊢
  have := par_bd (x := x) h.2.1 r n 0 hp hc
  omega

def root (n f c u : Int) : Int := if rt n f c u then nodes n f c u - 1 else 0

end Go.Proofs.YtlgopekjjkdkiaaDoor.X
end

section
/- Trees' shapes: which nodes have children; any seat. -/
namespace Go.Proofs.YtlgopekjjkdkiaaDoor.X
open Go Go.Proofs.YtlgopekjjkdkiaaDoor.Ev
set_option linter.unusedSectionVars false
variable [FZ]
set_option linter.unusedVariables false
set_option linter.unusedSimpArgs false
theorem chl_ne {f k : Int} (hf : 2 ≤ f ∧ f ≤ 4) : ∀ (r : List Int) (a s : Int), pos (a :: r) → chain f (a :: r) → s + a ≤ k → k < s + sumI (a :: r) → chl f k s (a :: r) ≠ []
  | [], a, s, h, hc, h0, h1 => by
    have e1 : sumI [a] = a + 0 := rfl
    omega
  | b :: r, a, s, h, hc, h0, h1 => by
    obtain ⟨g1, g2, g3⟩ := hc
    have e1 : sumI (a :: b :: r) = a + sumI (b :: r) := rfl
    simp only [chl]
    by_cases hq : s + a ≤ k ∧ k < s + a + b
    · rw [if_pos hq]
      intro hn
      have hm := (kids_mem (f := f) (s := s) (a := a) (q := k - (s + a)) (x := s + (k - (s + a)) * f) hf (by omega)).2
      rw [hn] at hm
      have : f = 2 ∨ f = 3 ∨ f = 4 := by omega
      rcases this with rfl | rfl | rfl <;> exact List.not_mem_nil (hm (by omega))
    · rw [if_neg hq]
      exact chl_ne hf r b (s + a) (pos_tl h).2 g3 (by omega) (by omega)

theorem par_root {f x : Int} (hf : 2 ≤ f ∧ f ≤ 4) : ∀ (r : List Int) (a s : Int), pos (a :: r) → chain f (a :: r) → 0 ≤ s → s ≤ x → x < s + sumI (a :: r) → (par f x s (a :: r) = -1 ↔ x = s + sumI (a :: r) - 1)
  | [], a, s, h, hc, hs, h0, h1 => by
    have hc : a = 1 := hc
    subst hc
    have e1 : sumI [1] = 1 := rfl
    simp only [par, true_iff]
    omega
  | b :: r, a, s, h, hc, hs, h0, h1 => by
    have ha := (pos_tl h).1
    have hb := (pos_tl (pos_tl h).2).1
    have hn := sum_nn (pos_tl (pos_tl h).2).2
    have e1 : sumI (a :: b :: r) = a + sumI (b :: r) := rfl
    have e2 : sumI (b :: r) = b + sumI r := rfl
    obtain ⟨g1, g2, g3⟩ := hc
    simp only [par]
    by_cases hx : s ≤ x ∧ x < s + a
    · have hd := div_up (y := x - s) hf g2 (by omega)
      rw [if_pos hx]
      omega
    · rw [if_neg hx, par_root hf r b (s + a) (pos_tl h).2 g3 (by omega) (by omega) (by omega)]
      omega

theorem chs_empty {n f c u k : Int} (h : rt n f c u) (h0 : 0 ≤ k) (h1 : k < nodes n f c u) : (((chs f k (levels n f c u)).length : Int) == 0) = decide (k < n) := by
  by_cases hk : k < n
  · have : chs f k (levels n f c u) = [] := by
      apply List.eq_nil_iff_forall_not_mem.2
      intro x hx
      have := (chs_mem h h0).1 hx
      have := prn_bd (x := x) h
      omega
    simp [this, hk]
  · have : chs f k (levels n f c u) ≠ [] := by
      obtain ⟨r, hr⟩ := levels_cons h
      have hc := lev_chain h
      have hp := lev_pos n f c u
      unfold nodes at h1
      rw [chs_chl _ hp]
      rw [hr] at hc hp h1 ⊢
      exact chl_ne h.2.1 r n 0 hp hc (by omega) (by omega)
    have : (chs f k (levels n f c u)).length ≠ 0 := fun h => this (List.length_eq_zero_iff.1 h)
    simp only [hk, decide_false]
    simpa using this

theorem prn_root {n f c u x : Int} (h : rt n f c u) (h0 : 0 ≤ x) (h1 : x < nodes n f c u) : prn n f c u x = -1 ↔ x = nodes n f c u - 1 := by
  obtain ⟨r, hr⟩ := levels_cons h
  have hc := lev_chain h
  have hp := lev_pos n f c u
  unfold nodes at h1 ⊢
  unfold prn
  rw [hr] at hc hp h1 ⊢
  have := par_root (x := x) h.2.1 r n 0 hp hc (by omega) h0 (by omega)
  omega

theorem chs_sorted {n f c u k : Int} : (chs f k (levels n f c u)).Pairwise (· < ·) := by
  unfold chs
  split
  · exact kids_nodup _
  · exact List.Pairwise.nil

theorem n_le {n f c u : Int} (h : rt n f c u) : n ≤ nodes n f c u := by
  obtain ⟨r, hr⟩ := levels_cons h
  have hp := lev_pos n f c u
  unfold nodes
  rw [hr] at hp ⊢
  have := sum_nn (pos_tl hp).2
  simp only [sumI]; omega

theorem sum_up {f : Int} (hf : 2 ≤ f ∧ f ≤ 4) : ∀ (r : List Int) (a : Int), pos (a :: r) → chain f (a :: r) → sumI (a :: r) ≤ 3 * a - 2
  | [], a, h, hc => by
    have hc : a = 1 := hc
    subst hc
    decide
  | b :: r, a, h, hc => by
    obtain ⟨g1, g2, g3⟩ := hc
    have e1 : sumI (a :: b :: r) = a + sumI (b :: r) := rfl
    have ih := sum_up hf r b (pos_tl h).2 g3
    have : f = 2 ∨ f = 3 ∨ f = 4 := by omega
    rcases this with rfl | rfl | rfl <;> omega

theorem nodes_up {n f c u : Int} (h : rt n f c u) : nodes n f c u ≤ 384 := by
  obtain ⟨r, hr⟩ := levels_cons h
  have hc := lev_chain h
  have hp := lev_pos n f c u
  have h1 := h.1
  unfold nodes
  rw [hr] at hc hp ⊢
  have := sum_up h.2.1 r n hp hc
  omega

end Go.Proofs.YtlgopekjjkdkiaaDoor.X
end

section
/- Sectors as they were: appended, read, scanned; the code's. -/
namespace Go.Proofs.YtlgopekjjkdkiaaDoor.X
open Go Go.Proofs.YtlgopekjjkdkiaaDoor.Ev
set_option linter.unusedSectionVars false
variable [FZ]
set_option linter.unusedVariables false
set_option linter.unusedSimpArgs false

theorem putL8 {β : Type} {n : Int} {v l : List Int} {k : Nat} {K : List Int → Option β} (hl : l.length ≤ 1000) : f55_1_l6 20000 n v K (k + 1 + 1 + 1 + 1 + 1 + 1 + 1 + 1 + 1) 56 l = K (l ++ b8 n) := by
  rw [putS (by omega) (by omega), putS (by omega) (by simp; omega), putS (by omega) (by simp; omega), putS (by omega) (by simp; omega), putS (by omega) (by simp; omega), putS (by omega) (by simp; omega), putS (by omega) (by simp; omega), putS (by omega) (by simp; omega)]
  refine putE.trans ?_
  congr 1
  simp [b8]
theorem putA8 {β : Type} {n : Int} {l : List Int} {K : List Int → Option β} (hl : l.length ≤ 1000) : f55_1 20000 8 n l K = K (l ++ b8 n) := by
  rw [f55_1, w64 (x := ((l.length : Nat) : Int) + 8) (by omega) (by omega), ct ⟨by omega, by omega, by omega, by omega⟩, ct (by omega), f74_1, ct (by omega), decide_eq_true (show (8 : Int) ≤ 8 by omega), cond_ff', List.take_zero, List.nil_append]
  exact putL8 (k := 19991) (K := fun x => K x) hl

/-! ### A head -/

def uhL (t e k p s : Int) : List Int := b8 t ++ (b8 e ++ (b4 k ++ (b4 p ++ b4 s)))
def uhB (t e k p s : Int) : ByteArray := mkB 7 (ofInts (uhL t e k p s))
theorem uhL_len (t e k p s : Int) : (uhL t e k p s).length = 28 := rfl
theorem uhL_r (t e k p s : Int) : byts (uhL t e k p s) := app_r (b8_r t) (app_r (b8_r e) (app_r (b4_r k) (app_r (b4_r p) (b4_r s))))
theorem uhB_size (t e k p s : Int) : (uhB t e k p s).size = 64 := mkB_size (by rw [oi_size, uhL_len]; omega)

theorem headS {β : Type} {v l : List Int} {i k : Nat} {x : Int} {K : List Int → Option β} (hi : i < 3) (hv : v.length = 3) (hx : v.getD i 0 = x) (h : U64 x) (hl : l.length ≤ 900) :
    f39_1_l4 20000 3 v K (k + 1) (i : Int) l = f39_1_l4 20000 3 v K k ((i + 1 : Nat) : Int) (l ++ b4 x) := by
  rw [f39_1_l4, ct (by omega), ct (by omega), ct (by omega), show 0 + (i : Int).toNat = i by omega, hx, wu64 h.1 h.2, putA4 (by omega), w64 (by omega) (by omega)]
  push_cast; rfl

theorem headP {β : Type} {t e k p : Int} {old : ByteArray} (hk : U32 k) (hp : U32 p) (ho : old.size ≤ 100) {K : ByteArray → Option β} : f39_1 20000 k t e p old K = K (ofInts (uhL t e k p (crc (toInts old)))) := by
  have htl := toInts_size old
  have hcr := crc_r (toInts old)
  have h8 : ∀ n, (b8 n).length = 8 := fun _ => rfl
  have h4 : ∀ n, (b4 n).length = 4 := fun _ => rfl
  rw [f39_1, put8, putA8 (by simp [h8]), crcP (by omega), wu32 hk.1 hk.2, wu32 hp.1 hp.2]
  refine (headS (i := 0) (k := 19999) (x := k) (by omega) rfl rfl ⟨hk.1, by omega⟩ (by simp [h8])).trans ?_
  refine (headS (i := 1) (k := 19998) (x := p) (by omega) rfl rfl ⟨hp.1, by omega⟩ (by simp [h8, h4])).trans ?_
  refine (headS (i := 2) (k := 19997) (x := crc (toInts old)) (by omega) rfl rfl ⟨hcr.1, by omega⟩ (by simp [h8, h4])).trans ?_
  show f39_1_l4 20000 3 _ _ (19996 + 1) 3 _ = _
  rw [f39_1_l4, cf (by omega)]
  simp only [uhL, List.append_assoc]

def h1 (L : List Int) : Int := num 0 (L.take 8)
def h2 (L : List Int) : Int := num 0 ((L.drop 8).take 8)
def h3 (L : List Int) : Int := num 0 (((L.drop 8).drop 8).take 4)
def h4 (L : List Int) : Int := num 0 ((((L.drop 8).drop 8).drop 4).take 4)
def h5 (L : List Int) : Int := num 0 (((((L.drop 8).drop 8).drop 4).drop 4).take 4)

theorem h_hd {t e k p s : Int} (ht : U64 t) (he : U64 e) (hk : U32 k) (hp : U32 p) (hs : U32 s) : h1 (uhL t e k p s) = t ∧ h2 (uhL t e k p s) = e ∧ h3 (uhL t e k p s) = k ∧ h4 (uhL t e k p s) = p ∧ h5 (uhL t e k p s) = s := by
  have d0 : (uhL t e k p s).drop 8 = b8 e ++ (b4 k ++ (b4 p ++ b4 s)) := List.drop_left' (l₁ := b8 t) rfl
  have d1 : (b8 e ++ (b4 k ++ (b4 p ++ b4 s))).drop 8 = b4 k ++ (b4 p ++ b4 s) := List.drop_left' (l₁ := b8 e) rfl
  have d2 : (b4 k ++ (b4 p ++ b4 s)).drop 4 = b4 p ++ b4 s := List.drop_left' rfl
  have d3 : (b4 p ++ b4 s).drop 4 = b4 s := List.drop_left' rfl
  have t0 : (uhL t e k p s).take 8 = b8 t := List.take_left' (l₁ := b8 t) rfl
  have t1 : (b8 e ++ (b4 k ++ (b4 p ++ b4 s))).take 8 = b8 e := List.take_left' (l₁ := b8 e) rfl
  have t2 : (b4 k ++ (b4 p ++ b4 s)).take 4 = b4 k := List.take_left' rfl
  have t3 : (b4 p ++ b4 s).take 4 = b4 p := List.take_left' rfl
  have t4 : (b4 s).take 4 = b4 s := rfl
  refine ⟨?_, ?_, ?_, ?_, ?_⟩
  · rw [h1, t0, num8 ht]
  · rw [h2, d0, t1, num8 he]
  · rw [h3, d0, d1, t2, num_b4 hk]
  · rw [h4, d0, d1, d2, t3, num_b4 hp]
  · rw [h5, d0, d1, d2, d3, t4, num_b4 hs]

theorem h_r {L : List Int} (hb : byts L) (hl : L.length = 28) : U64 (h1 L) ∧ U64 (h2 L) ∧ U32 (h3 L) ∧ U32 (h4 L) ∧ U32 (h5 L) :=
  ⟨(num8_inv (by simp; omega) (take_r 8 hb)).2, (num8_inv (by simp; omega) (take_r 8 (drop_r 8 hb))).2, (num4_inv (by simp; omega) (take_r 4 (drop_r 8 (drop_r 8 hb)))).2, (num4_inv (by simp; omega) (take_r 4 (drop_r 4 (drop_r 8 (drop_r 8 hb))))).2, (num4_inv (by simp; omega) (take_r 4 (drop_r 4 (drop_r 4 (drop_r 8 (drop_r 8 hb)))))).2⟩

def isU (s : ByteArray) : Prop := (opn 7 s).2 = 0 ∧ (opn 7 s).1.size = 28
instance (s : ByteArray) : Decidable (isU s) := by unfold isU; infer_instance

/-! ### What may be undone, and where -/

def mayb (n f c u p : Int) : Bool := decide (6 ≤ p ∧ p < 6 + n + nodes n f c u)

theorem mayP {β : Type} {n f c u p : Int} (hr : rt n f c u) {K : Bool → Option β} : f36_1 20000 n f c u p K = K (mayb n f c u p) := by
  have hn := hr.1
  have hno := nodes_ok n f c u
  rw [f36_1, mayb]
  by_cases h : p ≥ 6
  · rw [ct h, nodes50, w64 (x := 6 + n) (by omega) (by omega), w64 (by omega) (by omega)]
    congr 1
    exact decide_eq_decide.2 ⟨fun hh => ⟨h, hh⟩, fun hh => hh.2⟩
  · rw [cf h, decide_eq_false (fun hh => h hh.1)]

theorem uareaP {β : Type} {n f c u k : Int} (hr : rt n f c u) (hk : 0 ≤ k ∧ k < u) {K : Int → Int → Option β} : f37_1 20000 n f c u k K = K (6 + n + nodes n f c u + 2 * k) (6 + n + nodes n f c u + (2 * k + 1)) := by
  have hu := hr.2.2.2
  rw [f37_1, w64 (x := 2 * k) (by omega) (by omega), w64 (x := 2 * k + 1) (by omega) (by omega), areaP (.inr rfl), areaP (.inr rfl), if_neg (by omega), are, are, if_pos (show rt n f c u ∧ 0 ≤ 2 * k ∧ 2 * k < 2 * u from ⟨hr, by omega, by omega⟩), if_pos (show rt n f c u ∧ 0 ≤ 2 * k + 1 ∧ 2 * k + 1 < 2 * u from ⟨hr, by omega, by omega⟩)]

theorem layP {β : Type} {m q : Nat} {x a d : Int} {t : ByteArray} {b : Bool} {l : List ByteArray} {w : WL} (h : DS m q a d l w) (hq : q < 299) {K : Int → Int → Bool → Int → List ByteArray → WL → Option β} :
    f38_1 20000 x t a b d l w K = app K (svS x t a b d l w) := by
  rw [f38_1]
  exact svS_P (K := K) h hq

/-! ### Append -/

/-- What Append comes to: an entry, why not, and the disk. -/
def unS (n f c u k t e p a : Int) (b : Bool) (d : Int) (l : List ByteArray) (w : WL) : Int × Int × Int × ByteArray × St :=
  if ¬ rt n f c u then (0, 0, 0, ByteArray.empty, 12, a, b, d, l, w)
  else if k < 0 ∨ k ≥ u then (0, 0, 0, ByteArray.empty, 11, a, b, d, l, w)
  else if mayb n f c u p = false then (0, 0, 0, ByteArray.empty, 3, a, b, d, l, w)
  else if (rd p b l w).2 ≠ 0 then (0, 0, 0, ByteArray.empty, (rd p b l w).2, a, b, d, l, w)
  else if (svS (6 + n + nodes n f c u + (2 * k + 1)) (rd p b l w).1 a b d l w).1 ≠ 0 then (0, 0, 0, ByteArray.empty, svS (6 + n + nodes n f c u + (2 * k + 1)) (rd p b l w).1 a b d l w)
  else let s1 := svS (6 + n + nodes n f c u + (2 * k + 1)) (rd p b l w).1 a b d l w
    let s2 := svS (6 + n + nodes n f c u + 2 * k) (uhB t e k p (crc (toInts (rd p b l w).1))) s1.2.1 s1.2.2.1 s1.2.2.2.1 s1.2.2.2.2.1 s1.2.2.2.2.2
    if s2.1 ≠ 0 then (0, 0, 0, ByteArray.empty, s2) else (t, e, p, (rd p b l w).1, s2)

def app10 {β : Type} (K : Int → Int → Int → ByteArray → Int → Int → Bool → Int → List ByteArray → WL → Option β) (s : Int × Int × Int × ByteArray × St) : Option β :=
  K s.1 s.2.1 s.2.2.1 s.2.2.2.1 s.2.2.2.2.1 s.2.2.2.2.2.1 s.2.2.2.2.2.2.1 s.2.2.2.2.2.2.2.1 s.2.2.2.2.2.2.2.2.1 s.2.2.2.2.2.2.2.2.2

theorem unP {β : Type} {m q : Nat} {n f c u k t e p a d : Int} {b : Bool} {l : List ByteArray} {w : WL} (h : DS m q a d l w) (hq : q < 290) (h64 : (rd p b l w).1.size ≤ 100) {K : Int → Int → Int → ByteArray → Int → Int → Bool → Int → List ByteArray → WL → Option β} :
    f16_1 20000 n f c u k t e p a b d l w K = app10 K (unS n f c u k t e p a b d l w) := by
  rw [f16_1, right46, unS]
  by_cases hr : rt n f c u
  · have hn := hr.1
    have hu := hr.2.2.2
    have hno := nodes_ok n f c u
    rw [decide_eq_true hr, Bool.not_true, cond_false, if_neg (fun hh => hh hr)]
    by_cases h1 : k < 0
    · rw [ct h1, if_pos (Or.inl h1)]; rfl
    · by_cases h2 : k ≥ u
      · rw [cf h1, ct h2, if_pos (Or.inr h2)]; rfl
      · rw [cf h1, cf h2, if_neg (show ¬ (k < 0 ∨ k ≥ u) by omega), mayP hr]
        by_cases h3 : mayb n f c u p = true
        · have h3' : 6 ≤ p ∧ p < 6 + n + nodes n f c u := of_decide_eq_true h3
          rw [h3, Bool.not_true, cond_false, if_neg (show ¬ (true = false) by simp), readP (by omega) h]
          by_cases h4 : (rd p b l w).2 = 0
          · have hcr := crc_r (toInts (rd p b l w).1)
            have htl := toInts_size (rd p b l w).1
            rw [bnf h4, cond_false, if_neg (fun hh => hh h4), uareaP hr (by omega), layP h (by omega), app]
            generalize hs1 : svS (6 + n + nodes n f c u + (2 * k + 1)) (rd p b l w).1 a b d l w = s1
            have h' := svS_ok (x := 6 + n + nodes n f c u + (2 * k + 1)) (t := (rd p b l w).1) (b := b) h (by omega)
            rw [hs1] at h'
            by_cases h5 : s1.1 = 0
            · have hmk : mkR 7 (ofInts (uhL t e k p (crc (toInts (rd p b l w).1)))) = (uhB t e k p (crc (toInts (rd p b l w).1)), 0) := by rw [mkR, if_neg (by omega), if_neg (by rw [oi_size, uhL_len]; omega)]; rfl
              have hbig := big60
              rw [bnf h5, cond_false, if_neg (fun hh => hh h5), headP (by omega) (by omega) h64, makeP (by rw [oi_size, uhL_len]; omega), hmk, bnf rfl, cond_false, layP h' (by omega), app]
              by_cases h6 : (svS (6 + n + nodes n f c u + 2 * k) (uhB t e k p (crc (toInts (rd p b l w).1))) s1.2.1 s1.2.2.1 s1.2.2.2.1 s1.2.2.2.2.1 s1.2.2.2.2.2).1 = 0
              · rw [bnf h6, cond_false]
                show _ = app10 K (if _ then _ else _)
                rw [if_neg (fun hh => hh h6), app10]
                simp only
                rw [h6]
              · rw [bnt h6, cond_true]
                show _ = app10 K (if _ then _ else _)
                rw [if_pos h6]; rfl
            · rw [bnt h5, cond_true, if_pos h5]; rfl
          · rw [bnt h4, cond_true, if_pos h4]; rfl
        · have h3 : mayb n f c u p = false := by simpa using h3
          rw [h3, Bool.not_false, cond_true, if_pos rfl]; rfl
  · rw [decide_eq_false hr, Bool.not_false, cond_true, if_pos hr]; rfl

/-! ### An entry read -/

def okU (n f c u e : Int) (k : Nat) (s : ByteArray) (t1 e1 : Int) : Prop :=
  isU s ∧ h3 (toInts (opn 7 s).1) = (k : Int) ∧ mayb n f c u (h4 (toInts (opn 7 s).1)) = true ∧ e < h2 (toInts (opn 7 s).1) ∧ (0 < k → h1 (toInts (opn 7 s).1) = t1 ∧ h2 (toInts (opn 7 s).1) = e1)
instance (n f c u e : Int) (k : Nat) (s : ByteArray) (t1 e1 : Int) : Decidable (okU n f c u e k s t1 e1) := by unfold okU; infer_instance

/-- An entry, from its two sectors. -/
def rdV (n f c u e : Int) (k : Nat) (t1 e1 : Int) (s1 s2 : ByteArray × Int) : Int × Int × Int × ByteArray × Bool × Int :=
  if ¬ okU n f c u e k s1.1 t1 e1 then (0, 0, 0, ByteArray.empty, false, 0)
  else (h1 (toInts (opn 7 s1.1).1), h2 (toInts (opn 7 s1.1).1), h4 (toInts (opn 7 s1.1).1), s2.1, (if s2.2 = 0 then decide (crc (toInts s2.1) = h5 (toInts (opn 7 s1.1).1)) else false), s2.2)

def rdU (n f c u e : Int) (k : Nat) (t1 e1 : Int) (b : Bool) (l : List ByteArray) (w : WL) : Int × Int × Int × ByteArray × Bool × Int :=
  if (rd (6 + n + nodes n f c u + 2 * (k : Int)) b l w).2 ≠ 0 then (0, 0, 0, ByteArray.empty, false, (rd (6 + n + nodes n f c u + 2 * (k : Int)) b l w).2)
  else rdV n f c u e k t1 e1 (rd (6 + n + nodes n f c u + 2 * (k : Int)) b l w) (rd (6 + n + nodes n f c u + (2 * (k : Int) + 1)) b l w)

def app6 {β : Type} (K : Int → Int → Int → ByteArray → Bool → Int → Option β) (s : Int × Int × Int × ByteArray × Bool × Int) : Option β := K s.1 s.2.1 s.2.2.1 s.2.2.2.1 s.2.2.2.2.1 s.2.2.2.2.2

theorem readU {β : Type} {q p : Nat} {n f c u e a d t1 e1 p1 : Int} {o1 : ByteArray} {k : Nat} {b : Bool} {l : List ByteArray} {w : WL} (hr : rt n f c u) (h : DS q p a d l w) (hsz : ∀ x, (rd x b l w).1.size ≤ 100) (hk : (k : Int) < u) {K : Int → Int → Int → ByteArray → Bool → Int → Option β} :
    f60_1 20000 n f c u (k : Int) e t1 e1 p1 o1 a b d l w K = app6 K (rdU n f c u e k t1 e1 b l w) := by
  have hu := hr.2.2.2
  have hno := nodes_ok n f c u
  have hsz2 := hsz (6 + n + nodes n f c u + (2 * (k : Int) + 1))
  rw [f60_1, uareaP hr (by omega), readP (by omega) h, rdU]
  have hrd : ∀ K : ByteArray → Int → Option β, f29_1 20000 (6 + n + nodes n f c u + (2 * (k : Int) + 1)) a b d l w K = K (rd (6 + n + nodes n f c u + (2 * (k : Int) + 1)) b l w).1 (rd (6 + n + nodes n f c u + (2 * (k : Int) + 1)) b l w).2 := fun K => readP (by omega) h
  generalize rd (6 + n + nodes n f c u + (2 * (k : Int) + 1)) b l w = s2 at hsz2 hrd
  generalize rd (6 + n + nodes n f c u + 2 * (k : Int)) b l w = s1
  by_cases q1 : s1.2 = 0
  · rw [bnf q1, cond_false, if_neg (fun hh => hh q1), openP]
    have no : ¬ okU n f c u e k s1.1 t1 e1 → app6 K (rdV n f c u e k t1 e1 s1 s2) = K 0 0 0 ByteArray.empty false 0 := fun hh => by rw [rdV, if_pos hh]; rfl
    have fin : okU n f c u e k s1.1 t1 e1 → cond (s2.2 == 0) (f54_1 20000 (toInts s2.1) (fun x27 => K (h1 (toInts (opn 7 s1.1).1)) (h2 (toInts (opn 7 s1.1).1)) (h4 (toInts (opn 7 s1.1).1)) s2.1 (x27 == h5 (toInts (opn 7 s1.1).1)) s2.2)) (K (h1 (toInts (opn 7 s1.1).1)) (h2 (toInts (opn 7 s1.1).1)) (h4 (toInts (opn 7 s1.1).1)) s2.1 false s2.2) = app6 K (rdV n f c u e k t1 e1 s1 s2) := by
      intro hh
      have htl := toInts_size s2.1
      rw [rdV, if_neg (fun h' => h' hh), crcP (by omega)]
      generalize h5 (toInts (opn 7 s1.1).1) = g5
      by_cases z5 : s2.2 = 0
      · rw [show (s2.2 == 0) = true by simp [z5], cond_true, app6, if_pos z5]
        by_cases z6 : crc (toInts s2.1) = g5
        · rw [show (crc (toInts s2.1) == g5) = true by simp [z6], decide_eq_true z6]
        · rw [show (crc (toInts s2.1) == g5) = false by simp [z6], decide_eq_false z6]
      · rw [show (s2.2 == 0) = false by simp [z5], cond_false, app6, if_neg z5]
    generalize app6 K (rdV n f c u e k t1 e1 s1 s2) = X at no fin ⊢
    unfold okU at no fin
    by_cases q2 : (opn 7 s1.1).2 = 0
    · by_cases q3 : (opn 7 s1.1).1.size = 28
      · have hL : (toInts (opn 7 s1.1).1).length = 28 := by rw [toInts_size]; exact q3
        have hb := toInts_r (opn 7 s1.1).1
        obtain ⟨r1, r2, r3, r4, r5⟩ := h_r hb hL
        rw [bnf q2, cond_false, bnf (show ((opn 7 s1.1).1.size : Int) = 28 by omega), cond_false, f57_1, ct (by omega), List.nil_append]
        refine (numOK (w := 8) (by omega) (by omega) (by omega) (by omega) hb _).trans ?_
        refine (numOK (w := 8) (by omega) (by omega) (by simp; omega) (by simp; omega) (drop_r 8 hb) _).trans ?_
        refine (numOK (w := 4) (by omega) (by omega) (by simp; omega) (by simp; omega) (drop_r 8 (drop_r 8 hb)) _).trans ?_
        refine (numOK (w := 4) (by omega) (by omega) (by simp; omega) (by simp; omega) (drop_r 4 (drop_r 8 (drop_r 8 hb))) _).trans ?_
        refine (numOK (w := 4) (by omega) (by omega) (by simp; omega) (by simp; omega) (drop_r 4 (drop_r 4 (drop_r 8 (drop_r 8 hb)))) _).trans ?_
        rw [← h1, ← h2, ← h3, ← h4, ← h5]
        generalize toInts (opn 7 s1.1).1 = L at no fin r1 r2 r3 r4 r5 ⊢
        rw [w64 (x := h4 L) (by omega) (by omega), wu64 (x := (k : Int)) (by omega) (by omega), wu32 r5.1 r5.2]
        have lin : ∀ R : Option β, (h3 L = (k : Int) → mayb n f c u (h4 L) = true → e < h2 L → R = X) → cond (h3 L != (k : Int)) (K 0 0 0 ByteArray.empty false 0) (f36_1 20000 n f c u (h4 L) (fun x => cond (!x) (K 0 0 0 ByteArray.empty false 0) (cond (decide (h2 L ≤ e)) (K 0 0 0 ByteArray.empty false 0) R))) = X := by
          intro R hR
          by_cases z1 : h3 L = (k : Int)
          · rw [bnf z1, cond_false, mayP hr]
            by_cases z2 : mayb n f c u (h4 L) = true
            · rw [z2, Bool.not_true, cond_false]
              by_cases z3 : h2 L ≤ e
              · rw [ct z3, no (fun hh => by have := hh.2.2.2.1; omega)]
              · rw [cf z3]; exact hR z1 z2 (by omega)
            · have z2' : mayb n f c u (h4 L) = false := by simpa using z2
              rw [no (fun hh => z2 hh.2.2.1), z2', Bool.not_false, cond_true]
          · rw [no (fun hh => z1 hh.2.1), bnt z1, cond_true]
        by_cases z0 : (k : Int) > 0
        · rw [ct z0]
          by_cases z4 : h1 L = t1
          · rw [bnf z4, cond_false]
            refine lin _ (fun z1 z2 z3 => ?_)
            by_cases z5 : h2 L = e1
            · rw [bnf z5, cond_false, hrd]
              exact fin ⟨⟨q2, q3⟩, z1, z2, by omega, fun _ => ⟨z4, z5⟩⟩
            · rw [bnt z5, cond_true, no (fun hh => z5 (hh.2.2.2.2 (by omega)).2)]
          · rw [bnt z4, cond_true]
            exact lin _ (fun z1 z2 z3 => (no (fun hh => z4 (hh.2.2.2.2 (by omega)).1)).symm)
        · rw [cf z0]
          refine lin _ (fun z1 z2 z3 => ?_)
          rw [hrd]
          exact fin ⟨⟨q2, q3⟩, z1, z2, by omega, fun hh => by omega⟩
      · rw [no (fun hh => q3 hh.1.2), bnf q2, cond_false, bnt (show ¬ ((opn 7 s1.1).1.size : Int) = 28 by omega), cond_true]
    · rw [no (fun hh => q2 hh.1.1), bnt q2, cond_true]
  · rw [bnt q1, cond_true, if_pos q1]; rfl

end Go.Proofs.YtlgopekjjkdkiaaDoor.X
end

section
/- Sectors as they were: scanned, cleared; the code's. -/
namespace Go.Proofs.YtlgopekjjkdkiaaDoor.X
open Go Go.Proofs.YtlgopekjjkdkiaaDoor.Ev
set_option linter.unusedSectionVars false
variable [FZ]
set_option linter.unusedVariables false
set_option linter.unusedSimpArgs false

abbrev E0 : Int × (Int × (Int × ByteArray)) := (0, (0, (0, ByteArray.empty)))

/-- The entries from the k-th on, m of them at most. -/
def usc (n f c u e : Int) (b : Bool) (l : List ByteArray) (w : WL) : Nat → Nat → EL → Int × EL
  | 0, _, out => (0, out)
  | m + 1, k, out =>
    if (rd (6 + n + nodes n f c u + 2 * (k : Int)) b l w).2 ≠ 0 then ((rd (6 + n + nodes n f c u + 2 * (k : Int)) b l w).2, [])
    else if ¬ okU n f c u e k (rd (6 + n + nodes n f c u + 2 * (k : Int)) b l w).1 (out.getD 0 E0).1 (out.getD 0 E0).2.1 then (0, out)
    else if (rd (6 + n + nodes n f c u + (2 * (k : Int) + 1)) b l w).2 ≠ 0 then ((rd (6 + n + nodes n f c u + (2 * (k : Int) + 1)) b l w).2, [])
    else if crc (toInts (rd (6 + n + nodes n f c u + (2 * (k : Int) + 1)) b l w).1) ≠ h5 (toInts (opn 7 (rd (6 + n + nodes n f c u + 2 * (k : Int)) b l w).1).1) then (0, out)
    else usc n f c u e b l w m (k + 1) (out ++ [(h1 (toInts (opn 7 (rd (6 + n + nodes n f c u + 2 * (k : Int)) b l w).1).1), (h2 (toInts (opn 7 (rd (6 + n + nodes n f c u + 2 * (k : Int)) b l w).1).1), (h4 (toInts (opn 7 (rd (6 + n + nodes n f c u + 2 * (k : Int)) b l w).1).1), (rd (6 + n + nodes n f c u + (2 * (k : Int) + 1)) b l w).1)))])

theorem getD_cons_app {out : EL} {x : Int × (Int × (Int × ByteArray))} (h : 0 < out.length) : (out ++ [x]).getD 0 E0 = out.getD 0 E0 := by
  cases out with
  | nil => simp at h
  | cons y r => rfl

theorem uscL {β : Type} {q p : Nat} {n f c u e a d : Int} {z0 : EL} {z1 : Int} {b : Bool} {l : List ByteArray} {w : WL} (hr : rt n f c u) (h : DS q p a d l w) (hsz : ∀ x, (rd x b l w).1.size ≤ 100) {K : Int → EL → Option β} {K0 K1 K2}
    (k0 : ∀ out x1 x2 x3 x4 x5 x6 x7 x8, K0 out x1 x2 x3 x4 x5 x6 x7 x8 = K 0 out) (k1 : ∀ x out x1 x2 x3 x4 x5 x6 x7 x8 x9 x10 x11 x12, K1 x out x1 x2 x3 x4 x5 x6 x7 x8 x9 x10 x11 x12 = K x []) (k2 : ∀ out x1 x2 x3 x4, K2 out x1 x2 x3 x4 = K 0 out) :
    ∀ (m k fuel : Nat) (out : EL) (lt le lp : Int) (lo : ByteArray), ((m + k : Nat) : Int) = u → m < fuel → out.length = k → (0 < k → (out.getD 0 E0).1 = lt ∧ (out.getD 0 E0).2.1 = le) →
    f17_1_r2000005_l2 20000 u a b d l w z0 z1 n f c u e K0 K1 K2 fuel (k : Int) out lt le lp lo =
      K (usc n f c u e b l w m k out).1 (usc n f c u e b l w m k out).2
  | _, _, 0, _, _, _, _, _, _, h, _, _ => by omega
  | 0, k, fuel + 1, out, lt, le, lp, lo, hm, _, _, _ => by
    rw [f17_1_r2000005_l2, cf (by omega), k2]; rfl
  | m + 1, k, fuel + 1, out, lt, le, lp, lo, hm, hf, ho, hlk => by
    have hn := hr.1
    have hu := hr.2.2.2
    have hno := nodes_ok n f c u
    rw [f17_1_r2000005_l2, ct (by omega), readU hr h hsz (by omega), rdU, usc]
    have hlike : okU n f c u e k (rd (6 + n + nodes n f c u + 2 * (k : Int)) b l w).1 (out.getD 0 E0).1 (out.getD 0 E0).2.1 ↔ okU n f c u e k (rd (6 + n + nodes n f c u + 2 * (k : Int)) b l w).1 lt le := by
      by_cases h0 : 0 < k
      · rw [(hlk h0).1, (hlk h0).2]
      · unfold okU
        exact ⟨fun hh => ⟨hh.1, hh.2.1, hh.2.2.1, hh.2.2.2.1, fun h' => (h0 h').elim⟩, fun hh => ⟨hh.1, hh.2.1, hh.2.2.1, hh.2.2.2.1, fun h' => (h0 h').elim⟩⟩
    by_cases q1 : (rd (6 + n + nodes n f c u + 2 * (k : Int)) b l w).2 = 0
    · rw [if_neg (fun hh => hh q1), if_neg (fun hh => hh q1), rdV]
      by_cases q2 : okU n f c u e k (rd (6 + n + nodes n f c u + 2 * (k : Int)) b l w).1 lt le
      · rw [if_neg (show ¬ ¬ okU n f c u e k (rd (6 + n + nodes n f c u + 2 * (k : Int)) b l w).1 lt le from fun hh => hh q2), if_neg (show ¬ ¬ okU n f c u e k (rd (6 + n + nodes n f c u + 2 * (k : Int)) b l w).1 (out.getD 0 E0).1 (out.getD 0 E0).2.1 from fun hh => hh (hlike.2 q2))]
        generalize (rd (6 + n + nodes n f c u + (2 * (k : Int) + 1)) b l w) = s2
        by_cases q3 : s2.2 = 0
        · by_cases q4 : crc (toInts s2.1) = h5 (toInts (opn 7 (rd (6 + n + nodes n f c u + 2 * (k : Int)) b l w).1).1)
          · rw [if_pos q3, decide_eq_true q4, if_neg (fun hh => hh q3), if_neg (fun hh => hh q4), app6]
            simp only
            rw [q3]
            show cond ((0 : Int) == 0) (cond (!true) _ (cond ((0 : Int) != 0) _ _)) _ = _
            rw [beq_self_eq_true, cond_true, Bool.not_true, cond_false, bnf rfl, cond_false, ct (by omega), w64 (x := (k : Int) + 1) (by omega) (by omega)]
            have ih := uscL (e := e) (z0 := z0) (z1 := z1) (K := K) hr h hsz k0 k1 k2 m (k + 1) fuel (out ++ [(h1 (toInts (opn 7 (rd (6 + n + nodes n f c u + 2 * (k : Int)) b l w).1).1), (h2 (toInts (opn 7 (rd (6 + n + nodes n f c u + 2 * (k : Int)) b l w).1).1), (h4 (toInts (opn 7 (rd (6 + n + nodes n f c u + 2 * (k : Int)) b l w).1).1), s2.1)))])
              (h1 (toInts (opn 7 (rd (6 + n + nodes n f c u + 2 * (k : Int)) b l w).1).1)) (h2 (toInts (opn 7 (rd (6 + n + nodes n f c u + 2 * (k : Int)) b l w).1).1)) (h4 (toInts (opn 7 (rd (6 + n + nodes n f c u + 2 * (k : Int)) b l w).1).1)) s2.1 (by omega) (by omega) (by simp; omega) (fun _ => by
                by_cases h0 : 0 < k
                · rw [getD_cons_app (by omega), (hlk h0).1, (hlk h0).2]
                  exact ⟨(q2.2.2.2.2 h0).1.symm, (q2.2.2.2.2 h0).2.symm⟩
                · have : out = [] := List.length_eq_zero_iff.1 (by omega)
                  subst this; exact ⟨rfl, rfl⟩)
            push_cast at ih
            exact ih
          · rw [if_pos q3, decide_eq_false q4, if_neg (fun hh => hh q3), if_pos q4, app6]
            simp only
            rw [q3]
            show cond ((0 : Int) == 0) (cond (!false) _ _) _ = _
            rw [beq_self_eq_true, cond_true, Bool.not_false, cond_true, k0]
        · rw [if_neg q3, if_pos q3, app6]
          simp only
          rw [show (s2.2 == 0) = false by simp [q3], cond_false, bnt q3, cond_true, k1]
      · rw [if_pos q2, if_pos (fun hh => q2 (hlike.1 hh)), app6]
        show cond ((0 : Int) == 0) (cond (!false) _ _) _ = _
        rw [beq_self_eq_true, cond_true, Bool.not_false, cond_true, k0]
    · rw [if_pos q1, if_pos q1, app6]
      simp only
      rw [show ((rd (6 + n + nodes n f c u + 2 * (k : Int)) b l w).2 == 0) = false by simp [q1], cond_false, bnt q1, cond_true, k1]

/-- Scan: the entries, or why not. -/
def usG (n f c u e : Int) (b : Bool) (l : List ByteArray) (w : WL) : Int × EL := if rt n f c u then usc n f c u e b l w u.toNat 0 [] else (12, [])

theorem usGP {β : Type} {q p : Nat} {n f c u e a d : Int} {b : Bool} {l : List ByteArray} {w : WL} (h : DS q p a d l w) (hsz : ∀ x, (rd x b l w).1.size ≤ 100) {K : Int → EL → Option β} :
    f17_1 20000 n f c u e a b d l w K = K (usG n f c u e b l w).1 (usG n f c u e b l w).2 := by
  rw [f17_1, right46, usG]
  by_cases hr : rt n f c u
  · have hu := hr.2.2.2
    rw [decide_eq_true hr, Bool.not_true, cond_false, if_pos hr, f40_1, f17_1_r2000005]
    exact uscL hr h hsz (fun _ _ _ _ _ _ _ _ _ => rfl) (fun _ _ _ _ _ _ _ _ _ _ _ _ _ _ => rfl) (fun _ _ _ _ _ => rfl) u.toNat 0 20000 [] 0 0 0 ByteArray.empty (by omega) (by omega) rfl (fun hh => by omega)
  · rw [decide_eq_false hr, Bool.not_false, cond_true, if_neg hr]

theorem usc_len (n f c u e : Int) (b : Bool) (l : List ByteArray) (w : WL) : ∀ (m k : Nat) (out : EL), (usc n f c u e b l w m k out).2.length ≤ out.length + m
  | 0, k, out => by simp [usc]
  | m + 1, k, out => by
    rw [usc]
    split
    · simp
    · split
      · simp
      · split
        · simp
        · split
          · simp
          · refine Nat.le_trans (usc_len n f c u e b l w m (k + 1) _) ?_
            simp only [List.length_append, List.length_cons, List.length_nil]
            omega

theorem usG_len (n f c u e : Int) (b : Bool) (l : List ByteArray) (w : WL) : (usG n f c u e b l w).2.length ≤ 320 := by
  unfold usG
  split
  · rename_i hr
    have hu := hr.2.2.2
    have := usc_len n f c u e b l w u.toNat 0 []
    simp only [List.length_nil] at this
    omega
  · simp

/-- Clear. -/
noncomputable def clS (n f c u a : Int) (b : Bool) (d : Int) (l : List ByteArray) (w : WL) : St :=
  if rt n f c u then svS (6 + n + nodes n f c u) Z64 a b d l w else (12, a, b, d, l, w)

theorem clP {β : Type} {m q : Nat} {n f c u a d : Int} {b : Bool} {l : List ByteArray} {w : WL} (h : DS m q a d l w) (hq : q < 290) {K : Int → Int → Bool → Int → List ByteArray → WL → Option β} :
    f19_1 20000 n f c u a b d l w K = app K (clS n f c u a b d l w) := by
  rw [f19_1, right46, clS]
  by_cases hr : rt n f c u
  · have hu := hr.2.2.2
    have hz : ∀ K : ByteArray → Option β, f24_1 20000 K = K Z64 := fun K => by kernel_rfl
    rw [decide_eq_true hr, Bool.not_true, cond_false, if_pos hr, uareaP hr (by omega), hz, layP h (by omega), Int.mul_zero, Int.add_zero]
  · rw [decide_eq_false hr, Bool.not_false, cond_true, if_neg hr]; rfl

end Go.Proofs.YtlgopekjjkdkiaaDoor.X
end
