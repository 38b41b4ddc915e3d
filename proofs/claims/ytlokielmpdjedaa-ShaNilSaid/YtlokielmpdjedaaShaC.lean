/- SHA-256: bytes that come in parts, and the digest: the code's and the document's are one. -/
import Derived.Test.YtlokielmpdjedaaShaB
namespace Go.Proofs.Ytlokielmpdjedaa.X
open Go Go.Proofs.Ytlokielmpdjedaa.Ev
set_option linter.unusedVariables false

def cmpN : Nat → List Int → List Int → List Int × List Int
  | 0, s, l => (s, l)
  | q + 1, s, l => cmpN q (blk s (l.take 64)) (l.drop 64)

theorem cmpN_add : ∀ (q r : Nat) (s l : List Int), cmpN (q + r) s l = cmpN r (cmpN q s l).1 (cmpN q s l).2
  | 0, r, s, l => by simp [cmpN]
  | q + 1, r, s, l => by
    rw [show q + 1 + r = (q + r) + 1 by omega]
    simp only [cmpN]
    exact cmpN_add q r _ _
theorem cmpN_app : ∀ (q : Nat) (s l t : List Int), 64 * q ≤ l.length → cmpN q s (l ++ t) = ((cmpN q s l).1, (cmpN q s l).2 ++ t)
  | 0, s, l, t, _ => rfl
  | q + 1, s, l, t, h => by
    simp only [cmpN]
    rw [List.take_append_of_le_length (by omega), List.drop_append_of_le_length (by omega)]
    exact cmpN_app q _ _ t (by simp; omega)
theorem cmpN_len : ∀ (q : Nat) (s l : List Int), (cmpN q s l).2.length = l.length - 64 * q
  | 0, s, l => by simp [cmpN]
  | q + 1, s, l => by simp only [cmpN]; rw [cmpN_len q]; simp; omega
theorem cmpN_eight : ∀ (q : Nat) {s : List Int} (l : List Int), eight s → eight (cmpN q s l).1
  | 0, s, l, h => h
  | q + 1, s, l, h => cmpN_eight q _ (blk_eight _ h)

theorem writeL {β : Type} {F : Nat} {n : Int} {b : List Int} {K : List Int → List Int → Option β} (hF : 100 ≤ F) : ∀ (q k : Nat) (s l : List Int), eight s → l.length / 64 = q → q < k → l.length ≤ 70368744177664 →
    f74_1_l3 F n b K k s l = K (cmpN q s l).1 (cmpN q s l).2
  | 0, k, s, l, he, hq, hk, hl => by
    obtain ⟨k, rfl⟩ : ∃ j, k = j + 1 := ⟨k - 1, by omega⟩
    simp only [f74_1_l3]
    rw [cf (by omega)]; rfl
  | q + 1, k, s, l, he, hq, hk, hl => by
    obtain ⟨k, rfl⟩ : ∃ j, k = j + 1 := ⟨k - 1, by omega⟩
    have h64 : 64 ≤ l.length := by omega
    have e1 : (l.drop 64).take ((((l.length : Nat) : Int) - 64).toNat) = l.drop 64 := List.take_of_length_le (by simp; omega)
    simp only [f74_1_l3, e1, List.drop_zero, List.nil_append]
    rw [ct (by omega), ct (by omega), blkP hF he (by simp; omega), ct (by omega), ct (by simp; omega)]
    exact writeL hF q k _ _ (blk_eight _ he) (by simp; omega) (by omega) (by simp; omega)

def byt (n : Int) (j : Nat) : Int := IntKind.u8.wrap (ishr .u64 n ((8 * j : Nat) : Int))
/-- A number's eight bytes, the highest first. -/
def bes (n : Int) : Nat → List Int
  | 0 => []
  | m + 1 => byt n m :: bes n m

def setB (n : Int) : Nat → Nat → List Int → List Int
  | 0, _, xs => xs
  | m + 1, i, xs => setB n m (i + 1) (xs.set (7 - i) (byt n i))

theorem setB_len (n : Int) : ∀ m i xs, (setB n m i xs).length = xs.length
  | 0, _, _ => rfl
  | m + 1, i, xs => by rw [setB, setB_len n m]; simp
theorem setB_eq (n : Int) {xs : List Int} (h : xs.length = 8) : setB n 8 0 xs = bes n 8 := by
  match xs, h with
  | [a, b, c, d, e, f, g, h], _ => rfl

theorem bitsL {β : Type} {F L cp : Nat} {n : Int} {s w : List Int} {y : Int} {K : List Int → Option β} {A C : List Int} (hA : A.length + 8 = L) (hL : L ≤ 128) : ∀ (m i k : Nat) (xs : List Int), i + m = 8 → m < k → xs.length = 8 →
    f75_1_l10 F 0 L cp n s y w K k (i : Int) (A ++ (xs ++ C)) = K (A ++ (setB n m i xs ++ C))
  | 0, i, k, xs, hi, hk, hx => by
    obtain ⟨k, rfl⟩ : ∃ j, k = j + 1 := ⟨k - 1, by omega⟩
    simp only [f75_1_l10]
    rw [cf (by omega)]; rfl
  | m + 1, i, k, xs, hi, hk, hx => by
    obtain ⟨k, rfl⟩ : ∃ j, k = j + 1 := ⟨k - 1, by omega⟩
    have e1 : IntKind.i64.wrap (8 * (i : Int)) = ((8 * i : Nat) : Int) := by rw [w64 (by omega) (by omega)]; omega
    have e2 : IntKind.i64.wrap (IntKind.i64.wrap (((L : Nat) : Int) - 1) - (i : Int)) = ((A.length + (7 - i) : Nat) : Int) := by rw [w64 (x := ((L : Nat) : Int) - 1) (by omega) (by omega), w64 (by omega) (by omega)]; omega
    have e4 : IntKind.i64.wrap ((i : Int) + 1) = ((i + 1 : Nat) : Int) := by rw [w64 (by omega) (by omega)]; omega
    have e5 : (A ++ (xs ++ C)).set (A.length + (7 - i)) (byt n i) = A ++ (xs.set (7 - i) (byt n i) ++ C) := by
      rw [List.set_append_right _ _ (by omega), List.set_append_left _ _ (by omega)]
      congr 2
      rw [show A.length + (7 - i) - A.length = 7 - i by omega]
    have e6 : (A ++ (xs ++ C)).length = A.length + 8 + C.length := by simp [hx]; omega
    simp only [f75_1_l10, e1, e2, e4, Int.toNat_natCast, Nat.zero_add]
    rw [ct (by omega), cf (by omega), ct (by omega), ct (by omega)]
    rw [show IntKind.u8.wrap (ishr .u64 n ((8 * i : Nat) : Int)) = byt n i from rfl, e5]
    exact bitsL hA hL m (i + 1) k _ (by omega) (by omega) (by simp [hx])

theorem getD_take {l : List Int} {n i : Nat} (h : i < n) : (l.take n).getD i 0 = l.getD i 0 := by
  rw [List.getD_eq_getElem?_getD, List.getD_eq_getElem?_getD, List.getElem?_take_of_lt h]

theorem word_take {b : List Int} {i : Nat} (h : i < 16) : word (b.take 64) i = word b i := by
  simp only [word]
  rw [getD_take (by omega), getD_take (by omega), getD_take (by omega), getD_take (by omega)]

theorem ldr_take {b : List Int} : ∀ (m i : Nat) (acc : List Int), i + m = 16 → ldr (b.take 64) m i acc = ldr b m i acc
  | 0, i, acc, h => rfl
  | m + 1, i, acc, h => by simp only [ldr]; rw [word_take (by omega), ldr_take m (i + 1) _ (by omega)]

theorem blk_take (s b : List Int) : blk s (b.take 64) = blk s b := by
  simp only [blk, wds]; rw [ldr_take 16 0 _ (by omega)]

theorem lastL {β : Type} {F : Nat} {s0 w buf : List Int} {y : Int} {K : List Int → Option β} (hF : 100 ≤ F) : ∀ (r k lo cp : Nat) (s : List Int), eight s → r < k → r ≤ 2 → lo + 64 * r ≤ buf.length → 64 * r ≤ cp →
    f75_1_l15 F s0 y w buf K k lo (64 * r) cp s = K (cmpN r s ((buf.drop lo).take (64 * r))).1
  | 0, k, lo, cp, s, he, hk, hr, hb, hc => by
    obtain ⟨k, rfl⟩ : ∃ j, k = j + 1 := ⟨k - 1, by omega⟩
    simp only [f75_1_l15]
    rw [cf (by omega)]; rfl
  | r + 1, k, lo, cp, s, he, hk, hr, hb, hc => by
    obtain ⟨k, rfl⟩ : ∃ j, k = j + 1 := ⟨k - 1, by omega⟩
    have e1 : (((64 * (r + 1) : Nat) : Int) - 64).toNat = 64 * r := by omega
    simp only [f75_1_l15, e1]
    rw [ct (by omega), blkP hF he (by simp; omega), ct (by omega)]
    rw [lastL hF r k (lo + 64) (cp - 64) _ (blk_eight _ he) (by omega) (by omega) (by omega) (by omega)]
    simp only [cmpN]
    rw [blk_take, List.drop_take, List.drop_drop, show 64 * (r + 1) - 64 = 64 * r by omega]

def outs (s : List Int) : Nat → Nat → List Int → List Int
  | 0, _, acc => acc
  | m + 1, i, acc => outs s m (i + 1) (acc ++ [IntKind.u8.wrap (ishr .u32 (s.getD i 0) 24), IntKind.u8.wrap (ishr .u32 (s.getD i 0) 16), IntKind.u8.wrap (ishr .u32 (s.getD i 0) 8), IntKind.u8.wrap (s.getD i 0)])

theorem outP {β : Type} {F : Nat} {s s0 w : List Int} {y : Int} {K : List Int → Option β} : ∀ (m i k : Nat) (acc : List Int), i + m = 8 → m < k → acc.length ≤ 4 * i →
    f75_1_l20 F s s0 y w K k (i : Int) acc = K (outs s m i acc)
  | 0, i, k, acc, hi, hk, ha => by
    obtain ⟨k, rfl⟩ : ∃ j, k = j + 1 := ⟨k - 1, by omega⟩
    simp only [f75_1_l20]
    rw [cf (by omega)]; rfl
  | m + 1, i, k, acc, hi, hk, ha => by
    obtain ⟨k, rfl⟩ : ∃ j, k = j + 1 := ⟨k - 1, by omega⟩
    have e4 : IntKind.i64.wrap ((i : Int) + 1) = ((i + 1 : Nat) : Int) := by rw [w64 (by omega) (by omega)]; omega
    simp only [f75_1_l20, e4, Int.toNat_natCast]
    rw [ct (by omega), ct (by omega), ct (by omega)]
    exact outP m (i + 1) k _ (by omega) (by omega) (by simp; omega)

theorem outR {β : Type} {F : Nat} {s b : List Int} {K : List Int → Option β} (hs : s.length = 8) : ∀ (m i k : Nat) (acc : List Int), i + m = 8 → m < k → acc.length ≤ 4 * i →
    f72_1_l19 F b s K k (i : Int) acc = K (outs s m i acc)
  | 0, i, k, acc, hi, hk, ha => by
    obtain ⟨k, rfl⟩ : ∃ j, k = j + 1 := ⟨k - 1, by omega⟩
    simp only [f72_1_l19]
    rw [cf (by omega)]; rfl
  | m + 1, i, k, acc, hi, hk, ha => by
    obtain ⟨k, rfl⟩ : ∃ j, k = j + 1 := ⟨k - 1, by omega⟩
    have e4 : IntKind.i64.wrap ((i : Int) + 1) = ((i + 1 : Nat) : Int) := by rw [w64 (by omega) (by omega)]; omega
    simp only [f72_1_l19, e4, Int.toNat_natCast, hs]
    rw [ct (by omega), ct (by omega), ct (by omega), ct (by omega), ct (by omega), ct (by omega), ct (by omega), ct (by omega), ct (by omega), ct (by omega)]
    exact outR hs m (i + 1) k _ (by omega) (by omega) (by simp; omega)

/-- The numbers ahead of all blocks. -/
def ini : List Int := [1779033703, 3144134277, 1013904242, 2773480762, 1359893119, 2600822924, 528734635, 1541459225]
theorem ini_eight : eight ini := ⟨_, _, _, _, _, _, _, _, rfl⟩

/-- How many bytes 0 stand behind the first one that is laid on. -/
def zs (n : Nat) : Nat := if n % 64 < 56 then 55 - n % 64 else 119 - n % 64
/-- What is laid on behind n bytes. -/
def pad (n : Nat) : List Int := [128] ++ (List.replicate (zs n) 0 ++ bes ((8 * n : Nat) : Int) 8)
def blks (n : Nat) : Nat := if n % 64 < 56 then 1 else 2
theorem pad_len (n : Nat) : (pad n).length = 1 + zs n + 8 := by simp [pad, bes]; omega

/-- The digest of bytes. -/
def dig (b : List Int) : ByteArray := ofInts (outs (cmpN (b.length / 64 + blks b.length) ini (b ++ pad b.length)).1 8 0 [])

theorem zeroL {β : Type} {F : Nat} {b : List Int} {K : List Int → Option β} : ∀ (m k : Nat) (acc : List Int), (acc.length + m) % 64 = 56 → m < 64 → m < k → acc.length + m ≤ 1000000 →
    f72_1_l4 F b K k acc = K (acc ++ List.replicate m 0)
  | 0, k, acc, hm, h6, hk, ha => by
    obtain ⟨k, rfl⟩ : ∃ j, k = j + 1 := ⟨k - 1, by omega⟩
    have : ((((acc.length : Nat) : Int).tmod 64) != 56) = false := by
      rw [show (64 : Int) = ((64 : Nat) : Int) from rfl, tmod_nn, show acc.length % 64 = 56 by omega]; rfl
    simp only [f72_1_l4, this, cond_false, List.replicate_zero, List.append_nil]
  | m + 1, k, acc, hm, h6, hk, ha => by
    obtain ⟨k, rfl⟩ : ∃ j, k = j + 1 := ⟨k - 1, by omega⟩
    have : ((((acc.length : Nat) : Int).tmod 64) != 56) = true := by
      rw [show (64 : Int) = ((64 : Nat) : Int) from rfl, tmod_nn]
      have h0 : ¬ (acc.length % 64 = 56) := by omega
      rw [bne_iff_ne]; intro h1; exact h0 (by exact_mod_cast h1)
    simp only [f72_1_l4, this, cond_true]
    have hl1 : (acc ++ [(0 : Int)]).length = acc.length + 1 := by simp
    rw [ct (by omega), zeroL m k (acc ++ [0]) (by rw [hl1]; omega) (by omega) (by omega) (by rw [hl1]; omega), List.append_assoc]
    rfl

theorem besL {β : Type} {F : Nat} {n : Int} {b : List Int} {K : List Int → Option β} : ∀ (m k : Nat) (acc : List Int), m ≤ 8 → m < k → acc.length ≤ 1000000 - m →
    f72_1_l8 F n b K k ((m : Int) - 1) acc = K (acc ++ bes n m)
  | 0, k, acc, hm, hk, ha => by
    obtain ⟨k, rfl⟩ : ∃ j, k = j + 1 := ⟨k - 1, by omega⟩
    simp only [f72_1_l8]
    rw [cf (by omega)]; simp [bes]
  | m + 1, k, acc, hm, hk, ha => by
    obtain ⟨k, rfl⟩ : ∃ j, k = j + 1 := ⟨k - 1, by omega⟩
    have e1 : IntKind.i64.wrap (8 * (((m + 1 : Nat) : Int) - 1)) = ((8 * m : Nat) : Int) := by rw [w64 (by omega) (by omega)]; omega
    have e2 : IntKind.u64.wrap ((8 * m : Nat) : Int) = ((8 * m : Nat) : Int) := wu64 (by omega) (by omega)
    have e3 : IntKind.i64.wrap ((((m + 1 : Nat) : Int) - 1) - 1) = (m : Int) - 1 := by rw [w64 (by omega) (by omega)]; omega
    simp only [f72_1_l8, e1, e2, e3]
    rw [ct (by omega), cf (by omega), ct (by omega), besL m k _ (by omega) (by omega) (by simp; omega), List.append_assoc]
    rfl

theorem blocksL {β : Type} {F : Nat} {b all : List Int} {K : List Int → Option β} (hF : 100 ≤ F) (hall : all.length ≤ 1000000) : ∀ (q k at_ : Nat) (h : List Int), eight h → at_ + 64 * q = all.length → q < k →
    f72_1_l14 F b all k64 K k (at_ : Int) h = K (cmpN q h (all.drop at_)).1
  | 0, k, at_, h, he, hq, hk => by
    obtain ⟨k, rfl⟩ : ∃ j, k = j + 1 := ⟨k - 1, by omega⟩
    have e1 : IntKind.i64.wrap ((at_ : Int) + 64) = ((at_ + 64 : Nat) : Int) := by rw [w64 (by omega) (by omega)]; omega
    simp only [f72_1_l14, e1]
    rw [cf (by omega)]; rfl
  | q + 1, k, at_, h, he, hq, hk => by
    obtain ⟨k, rfl⟩ : ∃ j, k = j + 1 := ⟨k - 1, by omega⟩
    have e1 : IntKind.i64.wrap ((at_ : Int) + 64) = ((at_ + 64 : Nat) : Int) := by rw [w64 (by omega) (by omega)]; omega
    have e2 : (((at_ + 64 : Nat) : Int) - (at_ : Int)).toNat = 64 := by omega
    simp only [f72_1_l14, e1, e2, Nat.zero_add, Int.toNat_natCast]
    rw [ct (by omega), ct (by omega), blkR hF he (by simp; omega), blocksL hF hall q k (at_ + 64) _ (blk_eight _ he) (by omega) (by omega)]
    simp only [cmpN]
    rw [List.drop_drop]

theorem sumR {β : Type} {F : Nat} {b : List Int} {K : ByteArray → Option β} (hb : b.length ≤ 100000) (hF : 2000 ≤ F) : f72_1 F b K = K (dig b) := by
  have e1 : IntKind.u64.wrap ((b.length : Nat) : Int) = ((b.length : Nat) : Int) := wu64 (by omega) (by omega)
  have e2 : IntKind.u64.wrap (((b.length : Nat) : Int) * 8) = ((8 * b.length : Nat) : Int) := by rw [wu64 (by omega) (by omega)]; omega
  have hz : zs b.length < 64 ∧ (b.length + 1 + zs b.length) % 64 = 56 := by unfold zs; split <;> omega
  have hpl := pad_len b.length
  have hbl : (b ++ pad b.length).length = 64 * (b.length / 64 + blks b.length) := by
    rw [List.length_append, hpl]; unfold zs blks; split <;> omega
  simp only [f72_1, e1, e2]
  rw [ct (by omega), ct (by omega), zeroL (zs b.length) F _ (by simp; omega) (by omega) (by omega) (by simp; omega)]
  have h8 := besL (F := F) (n := ((8 * b.length : Nat) : Int)) (b := b) (K := fun x8 => f90_1 F fun x9 => f91_1 F fun x10 => f72_1_l14 F b x8 x10 (fun x17 => f72_1_l19 F b x17 (fun x22 => K (ofInts x22)) F 0 []) F 0 x9) 8 F (b ++ [128] ++ List.replicate (zs b.length) 0) (by omega) (by omega) (by simp; omega)
  rw [show ((8 : Nat) : Int) - 1 = 7 from rfl] at h8
  rw [h8]
  rw [show b ++ [128] ++ List.replicate (zs b.length) 0 ++ bes ((8 * b.length : Nat) : Int) 8 = b ++ pad b.length by simp [pad]]
  simp only [f90_1, f91_1]
  have hB := blocksL (F := F) (b := b) (all := b ++ pad b.length) (K := fun x17 => f72_1_l19 F b x17 (fun x22 => K (ofInts x22)) F 0 []) (by omega) (by rw [hbl]; unfold blks; split <;> omega)
    (b.length / 64 + blks b.length) F 0 ini ini_eight (by omega) (by unfold blks; split <;> omega)
  rw [show ((0 : Nat) : Int) = 0 from rfl, List.drop_zero] at hB
  refine hB.trans ?_
  obtain ⟨a, b', c, d, e, f, g, h, hx⟩ := cmpN_eight (b.length / 64 + blks b.length) (b ++ pad b.length) ini_eight
  have := outR (F := F) (s := (cmpN (b.length / 64 + blks b.length) ini (b ++ pad b.length)).1) (b := b) (K := fun x22 => K (ofInts x22)) (by rw [hx]; rfl) 8 0 F [] (by omega) (by omega) (by simp)
  exact this

/-- What a hash has behind all these bytes. -/
def HS (all s : List Int) (n : Int) (w : List Int) : Prop := s = (cmpN (all.length / 64) ini all).1 ∧ w = (cmpN (all.length / 64) ini all).2 ∧ n = ((all.length : Nat) : Int)

theorem HS_eight {all s w : List Int} {n : Int} (h : HS all s n w) : eight s := by rw [h.1]; exact cmpN_eight _ _ ini_eight
theorem HS_len {all s w : List Int} {n : Int} (h : HS all s n w) : w.length = all.length % 64 := by rw [h.2.1, cmpN_len]; omega

theorem HS_nil : HS [] ini 0 [] := ⟨rfl, rfl, rfl⟩

theorem HS_app {all s w b : List Int} {n : Int} (h : HS all s n w) : cmpN ((w ++ b).length / 64) s (w ++ b) = cmpN ((all ++ b).length / 64) ini (all ++ b) := by
  have hl := HS_len h
  have : (all ++ b).length / 64 = all.length / 64 + (w ++ b).length / 64 := by simp only [List.length_append, hl]; omega
  rw [this, cmpN_add, cmpN_app (all.length / 64) ini all b (by omega), ← h.1, ← h.2.1]

/-- Some more bytes. -/
theorem writeP {β : Type} {F : Nat} {all s w b : List Int} {n : Int} {K : List Int → Int → List Int → Option β} (hF : 2000 ≤ F) (h : HS all s n w) (hb : (all ++ b).length ≤ 100000) :
    ∃ s' w', HS (all ++ b) s' (((all ++ b).length : Nat) : Int) w' ∧ f74_1 F s n w b K = K s' (((all ++ b).length : Nat) : Int) w' := by
  have hl := HS_len h
  have hab : (all ++ b).length = all.length + b.length := by simp
  refine ⟨_, _, ⟨rfl, rfl, rfl⟩, ?_⟩
  have e1 : IntKind.u64.wrap ((b.length : Nat) : Int) = ((b.length : Nat) : Int) := wu64 (by omega) (by omega)
  have e2 : IntKind.u64.wrap (n + ((b.length : Nat) : Int)) = (((all ++ b).length : Nat) : Int) := by rw [h.2.2, wu64 (by omega) (by omega)]; simp
  simp only [f74_1, e1, e2]
  rw [ct (by omega), writeL (by omega) ((w ++ b).length / 64) F s (w ++ b) (HS_eight h) rfl (by simp; omega) (by simp; omega), HS_app h]

/-- The digest of all that came. -/
theorem sumP {β : Type} {F : Nat} {all s w : List Int} {n : Int} {K : ByteArray → Option β} (hF : 2000 ≤ F) (h : HS all s n w) (hb : all.length ≤ 100000) : f75_1 F s n w K = K (dig all) := by
  have hl := HS_len h
  have he := HS_eight h
  have e2 : IntKind.u64.wrap (8 * n) = ((8 * all.length : Nat) : Int) := by rw [h.2.2, wu64 (by omega) (by omega)]; omega
  have e3 : min w.length 64 = w.length := by omega
  have e4 : w.take 64 = w := List.take_of_length_le (by omega)
  have hbuf : ((List.replicate 128 (0 : Int)).take 0 ++ (w.take 64 ++ (List.replicate 128 0).drop (0 + (min w.length 64)))).set (0 + (((min w.length 64 : Nat) : Int).toNat)) 128 = w ++ ([128] ++ List.replicate (127 - w.length) 0) := by
    rw [e3, e4, Int.toNat_natCast, List.take_zero, List.nil_append, Nat.zero_add, List.set_append_right _ _ (by omega), Nat.sub_self, List.drop_replicate, show 128 - w.length = (127 - w.length) + 1 by omega, List.replicate_succ, List.set_cons_zero]
    rfl
  have hlen0 : ((List.replicate 128 (0 : Int)).take 0 ++ (w.take 64 ++ (List.replicate 128 0).drop (0 + (min w.length 64)))).length = 128 := by
    rw [e3, e4]; simp; omega
  have hall : cmpN (all.length / 64 + blks all.length) ini (all ++ pad all.length) = cmpN (blks all.length) s (w ++ pad all.length) := by
    rw [cmpN_add, cmpN_app _ _ _ _ (by omega), ← h.1, ← h.2.1]
  have fin : ∀ s', eight s' → f75_1_l20 F s' s n w (fun x27 => K (ofInts x27)) F 0 [] = K (ofInts (outs s' 8 0 [])) := fun s' _ =>
    outP (F := F) (s := s') (s0 := s) (w := w) (y := n) (K := fun x27 => K (ofInts x27)) 8 0 F [] (by omega) (by omega) (by simp)
  simp only [f75_1, hbuf]
  rw [ct (by omega), ct (by rw [hlen0]; omega), e2]
  unfold dig
  rw [hall]
  by_cases hw : w.length < 56
  · rw [cf (by omega)]
    have hbk : blks all.length = 1 := by unfold blks; rw [if_pos (by omega)]
    have hzs : zs all.length = 55 - w.length := by unfold zs; rw [if_pos (by omega), hl]
    have hsplit : w ++ ([128] ++ List.replicate (127 - w.length) 0) = (w ++ ([128] ++ List.replicate (zs all.length) 0)) ++ (List.replicate 8 0 ++ List.replicate 64 0) := by
      rw [hzs, show 127 - w.length = (55 - w.length) + (8 + 64) by omega, ← List.replicate_append_replicate, ← List.replicate_append_replicate]
      simp
    rw [hsplit]
    have hb1 := bitsL (F := F) (L := 64) (cp := 128) (n := ((8 * all.length : Nat) : Int)) (s := s) (w := w) (y := n) (A := w ++ ([128] ++ List.replicate (zs all.length) 0)) (C := List.replicate 64 0)
      (K := fun x28 => f75_1_l15 F s n w x28 (fun x29 => f75_1_l20 F x29 s n w (fun x30 => K (ofInts x30)) F 0 []) F 0 64 128 s) (by simp [hzs]; omega) (by omega) 8 0 F (List.replicate 8 0) (by omega) (by omega) (by simp)
    rw [show ((0 : Nat) : Int) = 0 from rfl] at hb1
    refine hb1.trans ?_
    rw [setB_eq _ (by simp)]
    have hpre : (w ++ ([128] ++ List.replicate (zs all.length) 0)) ++ (bes ((8 * all.length : Nat) : Int) 8 ++ List.replicate 64 0) = (w ++ pad all.length) ++ List.replicate 64 0 := by simp [pad]
    rw [hpre]
    have hpl : (w ++ pad all.length).length = 64 := by rw [List.length_append, pad_len, hzs]; omega
    have hL := lastL (F := F) (s0 := s) (w := w) (y := n) (buf := (w ++ pad all.length) ++ List.replicate 64 0) (K := fun x29 => f75_1_l20 F x29 s n w (fun x30 => K (ofInts x30)) F 0 []) (by omega) 1 F 0 128 s he (by omega) (by omega) (by rw [List.length_append, hpl]; simp) (by omega)
    refine hL.trans ?_
    rw [List.drop_zero, List.take_append_of_le_length (by omega), List.take_of_length_le (by omega), fin _ (cmpN_eight _ _ he), hbk]
  · rw [ct (by omega)]
    have hbk : blks all.length = 2 := by unfold blks; rw [if_neg (by omega)]
    have hzs : zs all.length = 119 - w.length := by unfold zs; rw [if_neg (by omega), hl]
    have hsplit : w ++ ([128] ++ List.replicate (127 - w.length) 0) = (w ++ ([128] ++ List.replicate (zs all.length) 0)) ++ (List.replicate 8 0 ++ []) := by
      rw [hzs, show 127 - w.length = (119 - w.length) + 8 by omega, ← List.replicate_append_replicate]
      simp
    rw [hsplit]
    have hb1 := bitsL (F := F) (L := 128) (cp := 128) (n := ((8 * all.length : Nat) : Int)) (s := s) (w := w) (y := n) (A := w ++ ([128] ++ List.replicate (zs all.length) 0)) (C := [])
      (K := fun x28 => f75_1_l15 F s n w x28 (fun x29 => f75_1_l20 F x29 s n w (fun x30 => K (ofInts x30)) F 0 []) F 0 128 128 s) (by simp [hzs]; omega) (by omega) 8 0 F (List.replicate 8 0) (by omega) (by omega) (by simp)
    rw [show ((0 : Nat) : Int) = 0 from rfl] at hb1
    refine hb1.trans ?_
    rw [setB_eq _ (by simp)]
    have hpre : (w ++ ([128] ++ List.replicate (zs all.length) 0)) ++ (bes ((8 * all.length : Nat) : Int) 8 ++ []) = w ++ pad all.length := by simp [pad]
    rw [hpre]
    have hpl : (w ++ pad all.length).length = 128 := by rw [List.length_append, pad_len, hzs]; omega
    have hL := lastL (F := F) (s0 := s) (w := w) (y := n) (buf := w ++ pad all.length) (K := fun x29 => f75_1_l20 F x29 s n w (fun x30 => K (ofInts x30)) F 0 []) (by omega) 2 F 0 128 s he (by omega) (by omega) (by rw [hpl]; omega) (by omega)
    refine hL.trans ?_
    rw [List.drop_zero, List.take_of_length_le (by omega), fin _ (cmpN_eight _ _ he), hbk]

/-- The digest of bytes, in one go. -/
theorem sumOne {β : Type} {F : Nat} {b : List Int} {K : ByteArray → Option β} (hF : 2000 ≤ F) (hb : b.length ≤ 100000) : f71_1 F b K = K (dig b) := by
  simp only [f71_1, f73_1, f93_1]
  obtain ⟨s', w', h1, h2⟩ := writeP (F := F) (b := b) (K := fun x3 x4 x5 => f75_1 F x3 x4 x5 fun x6 => K x6) hF HS_nil (by simpa using hb)
  refine h2.trans ?_
  rw [sumP hF h1 (by simpa using hb)]
  simp

end Go.Proofs.Ytlokielmpdjedaa.X
