/- SHA-256: the words of a block, what the code reckons and what the document's answer reckons. -/
import Derived.Test.YtlokielmpdjedaaEvF103
import Derived.Test.YtlokielmpdjedaaEvF92
import Derived.Test.YtlokielmpdjedaaPureW
namespace Go.Proofs.Ytlokielmpdjedaa.X
open Go Go.Proofs.Ytlokielmpdjedaa.Ev
set_option linter.unusedVariables false

/-- A number turned to the right. -/
def rot (x n : Int) : Int := ior .u32 (ishl .u32 x (32 - n)) (ishr .u32 x n)

theorem ior_comm (k : IntKind) (x y : Int) : ior k x y = ior k y x := by
  simp only [ior, BitVec.or_comm]

theorem turnP {β : Type} {F : Nat} {x n : Int} {K : Int → Option β} (h0 : 0 < n) (h1 : n < 32) : f104_1 F x n K = K (rot x n) := by
  have e1 : IntKind.i64.wrap (0 - n) = -n := by rw [w64 (by omega) (by omega)]; omega
  have e2 : IntKind.u64.wrap (-n) = ((18446744073709551616 - n.toNat : Nat) : Int) := by rw [wu64m]; omega
  have e3 : iand .u64 ((18446744073709551616 - n.toNat : Nat) : Int) 31 = 32 - n := by
    rw [show (31 : Int) = ((31 : Nat) : Int) from rfl, and64 (by omega) (by omega), show (31 : Nat) = 2 ^ 5 - 1 from rfl, Nat.and_two_pow_sub_one_eq_mod]
    omega
  have e4 : IntKind.u64.wrap (32 - (32 - n)) = n := by rw [wu64 (by omega) (by omega)]; omega
  simp only [f104_1, f105_1, e1, e2, e3, e4]
  rw [cf (by omega), cf (by omega)]
  rfl

theorem turnR {β : Type} {F : Nat} {x n : Int} {K : Int → Option β} (h0 : 0 < n) (h1 : n < 32) : f101_1 F x n K = K (rot x n) := by
  have e4 : IntKind.u64.wrap (32 - n) = 32 - n := wu64 (by omega) (by omega)
  simp only [f101_1, e4]
  rw [cf (by omega), cf (by omega), rot, ior_comm]

def word (b : List Int) (i : Nat) : Int :=
  ior .u32 (ior .u32 (ior .u32 (ishl .u32 (IntKind.u32.wrap (b.getD (4 * i) 0)) 24) (ishl .u32 (IntKind.u32.wrap (b.getD (4 * i + 1) 0)) 16)) (ishl .u32 (IntKind.u32.wrap (b.getD (4 * i + 2) 0)) 8)) (IntKind.u32.wrap (b.getD (4 * i + 3) 0))

def ldr (b : List Int) : Nat → Nat → List Int → List Int
  | 0, _, acc => acc
  | m + 1, i, acc => ldr b m (i + 1) (acc.set i (word b i))

theorem ldr_len (b : List Int) : ∀ m i acc, (ldr b m i acc).length = acc.length
  | 0, _, _ => rfl
  | m + 1, i, acc => by rw [ldr, ldr_len b m]; simp

theorem ldP {β : Type} {F : Nat} {b z : List Int} {K : List Int → Option β} (hb : 64 ≤ b.length) : ∀ (m i k : Nat) (acc : List Int), i + m = 16 → m < k → acc.length = 64 →
    f103_1_l3 F b z K k (i : Int) acc = K (ldr b m i acc)
  | 0, i, k, acc, hi, hk, ha => by
    obtain ⟨k, rfl⟩ : ∃ j, k = j + 1 := ⟨k - 1, by omega⟩
    simp only [f103_1_l3]
    rw [cf (by omega)]; rfl
  | m + 1, i, k, acc, hi, hk, ha => by
    obtain ⟨k, rfl⟩ : ∃ j, k = j + 1 := ⟨k - 1, by omega⟩
    have e1 : IntKind.i64.wrap (4 * (i : Int)) = ((4 * i : Nat) : Int) := by rw [w64 (by omega) (by omega)]; omega
    have e2 : IntKind.i64.wrap (((4 * i : Nat) : Int) + 4) = ((4 * i + 4 : Nat) : Int) := by rw [w64 (by omega) (by omega)]; omega
    have e3 : (((4 * i + 4 : Nat) : Int) - ((4 * i : Nat) : Int)).toNat = 4 := by omega
    have e4 : IntKind.i64.wrap ((i : Int) + 1) = ((i + 1 : Nat) : Int) := by rw [w64 (by omega) (by omega)]; omega
    simp only [f103_1_l3, e1, e2, e3, e4, Int.toNat_natCast, Nat.zero_add, Nat.add_zero, ha]
    rw [ct (by omega), ct (by omega), ct (by omega), ct (by omega), ct (by omega), ct (by omega), ct (by omega), ct (by omega), ct (by omega), ct (by omega), ct (by omega), ct (by omega)]
    exact ldP hb m (i + 1) k _ (by omega) (by omega) (by simp [ha])

theorem ldR {β : Type} {F : Nat} {b z s y : List Int} {K : List Int → Option β} (hb : 64 ≤ b.length) : ∀ (m i k : Nat) (acc : List Int), i + m = 16 → m < k → acc.length = 64 →
    f92_1_l3 F y b s z K k (i : Int) acc = K (ldr b m i acc)
  | 0, i, k, acc, hi, hk, ha => by
    obtain ⟨k, rfl⟩ : ∃ j, k = j + 1 := ⟨k - 1, by omega⟩
    simp only [f92_1_l3]
    rw [cf (by omega)]; rfl
  | m + 1, i, k, acc, hi, hk, ha => by
    obtain ⟨k, rfl⟩ : ∃ j, k = j + 1 := ⟨k - 1, by omega⟩
    have e1 : IntKind.i64.wrap (4 * (i : Int)) = ((4 * i : Nat) : Int) := by rw [w64 (by omega) (by omega)]; omega
    have e2 : IntKind.i64.wrap (((4 * i : Nat) : Int) + 1) = ((4 * i + 1 : Nat) : Int) := by rw [w64 (by omega) (by omega)]; omega
    have e3 : IntKind.i64.wrap (((4 * i : Nat) : Int) + 2) = ((4 * i + 2 : Nat) : Int) := by rw [w64 (by omega) (by omega)]; omega
    have e5 : IntKind.i64.wrap (((4 * i : Nat) : Int) + 3) = ((4 * i + 3 : Nat) : Int) := by rw [w64 (by omega) (by omega)]; omega
    have e4 : IntKind.i64.wrap ((i : Int) + 1) = ((i + 1 : Nat) : Int) := by rw [w64 (by omega) (by omega)]; omega
    simp only [f92_1_l3, e1, e2, e3, e4, e5, Int.toNat_natCast, Nat.zero_add, Nat.add_zero, ha]
    rw [ct (by omega), ct (by omega), ct (by omega), ct (by omega), ct (by omega), ct (by omega), ct (by omega), ct (by omega), ct (by omega), ct (by omega), ct (by omega)]
    exact ldR hb m (i + 1) k _ (by omega) (by omega) (by simp [ha])

def sg0 (x : Int) : Int := ixor .u32 (ixor .u32 (rot x 7) (rot x 18)) (ishr .u32 x 3)
def sg1 (x : Int) : Int := ixor .u32 (ixor .u32 (rot x 17) (rot x 19)) (ishr .u32 x 10)

def nx (l : List Int) (i : Nat) : Int := IntKind.u32.wrap ((IntKind.u32.wrap ((IntKind.u32.wrap (l.getD (i - 16) 0 + l.getD (i - 7) 0)) + sg0 (l.getD (i - 15) 0))) + sg1 (l.getD (i - 2) 0))

def exps : Nat → Nat → List Int → List Int
  | 0, _, acc => acc
  | m + 1, i, acc => exps m (i + 1) (acc.set i (nx acc i))

theorem exps_len : ∀ m i acc, (exps m i acc).length = acc.length
  | 0, _, _ => rfl
  | m + 1, i, acc => by rw [exps, exps_len m]; simp

theorem exP {β : Type} {F : Nat} {b z : List Int} {K : List Int → Option β} : ∀ (m i k : Nat) (acc : List Int), i + m = 64 → 16 ≤ i → m < k → acc.length = 64 →
    f103_1_l9 F b z K k (i : Int) acc = K (exps m i acc)
  | 0, i, k, acc, hi, hj, hk, ha => by
    obtain ⟨k, rfl⟩ : ∃ j, k = j + 1 := ⟨k - 1, by omega⟩
    simp only [f103_1_l9]
    rw [cf (by omega)]; rfl
  | m + 1, i, k, acc, hi, hj, hk, ha => by
    obtain ⟨k, rfl⟩ : ∃ j, k = j + 1 := ⟨k - 1, by omega⟩
    have e1 : IntKind.i64.wrap ((i : Int) - 15) = ((i - 15 : Nat) : Int) := by rw [w64 (by omega) (by omega)]; omega
    have e2 : IntKind.i64.wrap ((i : Int) - 2) = ((i - 2 : Nat) : Int) := by rw [w64 (by omega) (by omega)]; omega
    have e3 : IntKind.i64.wrap ((i : Int) - 16) = ((i - 16 : Nat) : Int) := by rw [w64 (by omega) (by omega)]; omega
    have e5 : IntKind.i64.wrap ((i : Int) - 7) = ((i - 7 : Nat) : Int) := by rw [w64 (by omega) (by omega)]; omega
    have e4 : IntKind.i64.wrap ((i : Int) + 1) = ((i + 1 : Nat) : Int) := by rw [w64 (by omega) (by omega)]; omega
    simp only [f103_1_l9, e1, e2, e3, e4, e5, Int.toNat_natCast, ha]
    rw [ct (by omega), ct (by omega), ct (by omega), ct (by omega), ct (by omega), ct (by omega), ct (by omega), ct (by omega), ct (by omega), turnP (by omega) (by omega), turnP (by omega) (by omega), turnP (by omega) (by omega), turnP (by omega) (by omega),
      ct (by omega), ct (by omega)]
    exact exP m (i + 1) k _ (by omega) (by omega) (by omega) (by simp [ha])

theorem add4 (a b c d : Int) : IntKind.u32.wrap (IntKind.u32.wrap (IntKind.u32.wrap (a + c) + b) + d) = IntKind.u32.wrap (IntKind.u32.wrap (IntKind.u32.wrap (a + b) + c) + d) := by
  simp only [wu32m]; omega

theorem exR {β : Type} {F : Nat} {b z s y : List Int} {K : List Int → Option β} : ∀ (m i k : Nat) (acc : List Int), i + m = 64 → 16 ≤ i → m < k → acc.length = 64 →
    f92_1_l7 F y b s z K k (i : Int) acc = K (exps m i acc)
  | 0, i, k, acc, hi, hj, hk, ha => by
    obtain ⟨k, rfl⟩ : ∃ j, k = j + 1 := ⟨k - 1, by omega⟩
    simp only [f92_1_l7]
    rw [cf (by omega)]; rfl
  | m + 1, i, k, acc, hi, hj, hk, ha => by
    obtain ⟨k, rfl⟩ : ∃ j, k = j + 1 := ⟨k - 1, by omega⟩
    have e1 : IntKind.i64.wrap ((i : Int) - 15) = ((i - 15 : Nat) : Int) := by rw [w64 (by omega) (by omega)]; omega
    have e2 : IntKind.i64.wrap ((i : Int) - 2) = ((i - 2 : Nat) : Int) := by rw [w64 (by omega) (by omega)]; omega
    have e3 : IntKind.i64.wrap ((i : Int) - 16) = ((i - 16 : Nat) : Int) := by rw [w64 (by omega) (by omega)]; omega
    have e5 : IntKind.i64.wrap ((i : Int) - 7) = ((i - 7 : Nat) : Int) := by rw [w64 (by omega) (by omega)]; omega
    have e4 : IntKind.i64.wrap ((i : Int) + 1) = ((i + 1 : Nat) : Int) := by rw [w64 (by omega) (by omega)]; omega
    simp only [f92_1_l7, e1, e2, e3, e4, e5, Int.toNat_natCast, ha]
    rw [ct (by omega), ct (by omega), ct (by omega), ct (by omega), ct (by omega), ct (by omega), ct (by omega), ct (by omega), ct (by omega), turnR (by omega) (by omega), turnR (by omega) (by omega), turnR (by omega) (by omega), turnR (by omega) (by omega),
      ct (by omega), ct (by omega), add4]
    exact exR m (i + 1) k _ (by omega) (by omega) (by omega) (by simp [ha])

/-- The 64 words of a block. -/
def wds (b : List Int) : List Int := exps 48 16 (ldr b 16 0 (List.replicate 64 0))

theorem wds_len (b : List Int) : (wds b).length = 64 := by rw [wds, exps_len, ldr_len]; rfl

theorem spreadP {β : Type} {F : Nat} {b : List Int} {K : List Int → Option β} (hF : 100 ≤ F) (hb : 64 ≤ b.length) : f103_1 F b K = K (wds b) := by
  simp only [f103_1]
  rw [show ([0, 0, 0, 0, 0, 0, 0, 0, 0, 0, 0, 0, 0, 0, 0, 0, 0, 0, 0, 0, 0, 0, 0, 0, 0, 0, 0, 0, 0, 0, 0, 0, 0, 0, 0, 0, 0, 0, 0, 0, 0, 0, 0, 0, 0, 0, 0, 0, 0, 0, 0, 0, 0, 0, 0, 0, 0, 0, 0, 0, 0, 0, 0, 0] : List Int) = List.replicate 64 0 from rfl,
    show (0 : Int) = ((0 : Nat) : Int) from rfl, ldP hb 16 0 F _ (by omega) (by omega) (by simp), show (16 : Int) = ((16 : Nat) : Int) from rfl, exP 48 16 F _ (by omega) (by omega) (by omega) (by rw [ldr_len]; simp)]
  rfl

end Go.Proofs.Ytlokielmpdjedaa.X
