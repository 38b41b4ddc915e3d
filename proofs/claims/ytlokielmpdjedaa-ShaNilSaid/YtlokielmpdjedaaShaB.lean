/- SHA-256: blocks; bytes that come in parts; the digest. -/
import Derived.Test.YtlokielmpdjedaaShaBlk
import Derived.Test.YtlokielmpdjedaaEvF71
import Derived.Test.YtlokielmpdjedaaEvF72
namespace Go.Proofs.Ytlokielmpdjedaa.X
open Go Go.Proofs.Ytlokielmpdjedaa.Ev
set_option linter.unusedVariables false

def sS1 (e : Int) : Int := ixor .u32 (ixor .u32 (rot e 6) (rot e 11)) (rot e 25)
def sS0 (a : Int) : Int := ixor .u32 (ixor .u32 (rot a 2) (rot a 13)) (rot a 22)
def t1 (e f g h k w : Int) : Int := IntKind.u32.wrap (IntKind.u32.wrap (IntKind.u32.wrap (IntKind.u32.wrap (h + sS1 e) + ixor .u32 (iand .u32 e f) (iand .u32 (ixor .u32 4294967295 e) g)) + k) + w)
def t2 (a b c : Int) : Int := IntKind.u32.wrap (sS0 a + ixor .u32 (ixor .u32 (iand .u32 a b) (iand .u32 a c)) (iand .u32 b c))

def stp (v : List Int) (k w : Int) : List Int := match v with
  | [a, b, c, d, e, f, g, h] => [IntKind.u32.wrap (t1 e f g h k w + t2 a b c), a, b, c, IntKind.u32.wrap (d + t1 e f g h k w), e, f, g]
  | v => v

def rds (kk ww : List Int) : Nat → Nat → List Int → List Int
  | 0, _, v => v
  | m + 1, i, v => rds kk ww m (i + 1) (stp v (kk.getD i 0) (ww.getD i 0))

def fin8 (s v : List Int) : List Int := match s, v with
  | [a, b, c, d, e, f, g, h], [a', b', c', d', e', f', g', h'] => [IntKind.u32.wrap (a' + a), IntKind.u32.wrap (b' + b), IntKind.u32.wrap (c' + c), IntKind.u32.wrap (d' + d), IntKind.u32.wrap (e' + e), IntKind.u32.wrap (f' + f), IntKind.u32.wrap (g' + g), IntKind.u32.wrap (h' + h)]
  | _, _ => []

def eight (s : List Int) : Prop := ∃ a b c d e f g h, s = [a, b, c, d, e, f, g, h]
theorem eight_of {s : List Int} (h : s.length = 8) : eight s := by
  match s, h with
  | [a, b, c, d, e, f, g, h], _ => exact ⟨a, b, c, d, e, f, g, h, rfl⟩

theorem stp_eight {v : List Int} (h : eight v) (k w : Int) : eight (stp v k w) := by
  obtain ⟨a, b, c, d, e, f, g, h, rfl⟩ := h
  exact ⟨_, _, _, _, _, _, _, _, rfl⟩
theorem rds_eight {kk ww : List Int} : ∀ (m i : Nat) {v : List Int}, eight v → eight (rds kk ww m i v)
  | 0, _, v, h => h
  | m + 1, i, v, h => rds_eight m (i + 1) (stp_eight h _ _)

/-- The numbers behind a block. -/
def blk (s b : List Int) : List Int := fin8 s (rds k64 (wds b) 64 0 s)
theorem blk_eight {s : List Int} (b : List Int) (h : eight s) : eight (blk s b) := by
  have h2 := rds_eight (kk := k64) (ww := wds b) 64 0 h
  obtain ⟨a, b', c, d, e, f, g, h, rfl⟩ := h
  obtain ⟨a', b'', c', d', e', f', g', h', h3⟩ := h2
  unfold blk
  rw [h3]
  exact ⟨_, _, _, _, _, _, _, _, rfl⟩

theorem k64_len : k64.length = 64 := rfl

theorem rdP {β : Type} {F : Nat} {b s z ww : List Int} {K : List Int → Option β} (hw : ww.length = 64) : ∀ (m i k : Nat) (v : List Int), eight v → i + m = 64 → m < k →
    f94_0_l3 F b s z k64 ww K k (i : Int) v = K (rds k64 ww m i v)
  | 0, i, k, v, he, hi, hk => by
    obtain ⟨k, rfl⟩ : ∃ j, k = j + 1 := ⟨k - 1, by omega⟩
    simp only [f94_0_l3]
    rw [cf (by omega)]; rfl
  | m + 1, i, k, v, he, hi, hk => by
    obtain ⟨k, rfl⟩ : ∃ j, k = j + 1 := ⟨k - 1, by omega⟩
    have e4 : IntKind.i64.wrap ((i : Int) + 1) = ((i + 1 : Nat) : Int) := by rw [w64 (by omega) (by omega)]; omega
    have ih := rdP (F := F) (b := b) (s := s) (z := z) (K := K) hw m (i + 1) k _ (stp_eight he (k64.getD i 0) (ww.getD i 0)) (by omega) (by omega)
    obtain ⟨va, vb, vc, vd, ve, vf, vg, vh, rfl⟩ := he
    simp only [f94_0_l3, e4, hw, Int.toNat_natCast]
    have q0 : i < k64.length := by rw [k64_len]; omega
    rw [ct (by omega), ct (by simp), ct (by simp), ct (by simp), ct (by simp), ct (by simp), ct (by simp), ct (by simp), ct (by simp), ct (by simp), ct (by omega), ct q0, ct (by omega), ct (by omega),
      turnP (by omega) (by omega), turnP (by omega) (by omega), turnP (by omega) (by omega), turnP (by omega) (by omega), turnP (by omega) (by omega), turnP (by omega) (by omega)]
    rw [ct (by simp), ct (by simp), ct (by simp)]
    exact ih

def adds (s : List Int) : Nat → Nat → List Int → List Int
  | 0, _, v => v
  | m + 1, i, v => adds s m (i + 1) (v.set i (IntKind.u32.wrap (v.getD i 0 + s.getD i 0)))

theorem addP {β : Type} {F : Nat} {b z s : List Int} {K : List Int → Option β} (hs : s.length = 8) : ∀ (m i k : Nat) (v : List Int), v.length = 8 → i + m = 8 → m < k →
    f94_0_l14 F b s z K k (i : Int) v = K (adds s m i v)
  | 0, i, k, v, he, hi, hk => by
    obtain ⟨k, rfl⟩ : ∃ j, k = j + 1 := ⟨k - 1, by omega⟩
    simp only [f94_0_l14]
    rw [cf (by omega)]; rfl
  | m + 1, i, k, v, he, hi, hk => by
    obtain ⟨k, rfl⟩ : ∃ j, k = j + 1 := ⟨k - 1, by omega⟩
    have e4 : IntKind.i64.wrap ((i : Int) + 1) = ((i + 1 : Nat) : Int) := by rw [w64 (by omega) (by omega)]; omega
    simp only [f94_0_l14, e4, hs, he, Int.toNat_natCast]
    rw [ct (by omega), ct (by omega), ct (by omega), ct (by omega), ct (by omega), ct (by omega), ct (by omega)]
    exact addP hs m (i + 1) k _ (by simp [he]) (by omega) (by omega)

theorem fnP {β : Type} {F : Nat} {b z s v : List Int} {K : List Int → Option β} (hF : 9 ≤ F) (hs : eight s) (hv : eight v) : f94_0_l14 F b s z K F 0 v = K (fin8 s v) := by
  obtain ⟨a, b', c, d, e, f, g, h, rfl⟩ := hs
  obtain ⟨va, vb, vc, vd, ve, vf, vg, vh, rfl⟩ := hv
  exact addP rfl 8 0 F _ rfl (by omega) (by omega)

theorem blkP {β : Type} {F : Nat} {s b : List Int} {K : List Int → Option β} (hF : 100 ≤ F) (hs : eight s) (hb : 64 ≤ b.length) : f94_1 F s b K = K (blk s b) := by
  simp only [f94_1]
  rw [ct ⟨hF, hb⟩]
  simp only [f94_0]
  have h1 := rdP (F := F) (b := b) (s := s) (z := [0, 0, 0, 0, 0, 0, 0, 0]) (K := fun x14 => f94_0_l14 F b s [0, 0, 0, 0, 0, 0, 0, 0] (fun x20 => K x20) F 0 x14) (wds_len b) 64 0 F s hs (by omega) (by omega)
  rw [show ((0 : Nat) : Int) = 0 from rfl] at h1
  rw [h1, fnP (by omega) hs (rds_eight 64 0 hs)]
  rfl

theorem rdR {β : Type} {F : Nat} {b s z ww : List Int} {K : Int → Int → Int → Int → Int → Int → Int → Int → Option β} {K' : List Int → Option β} (hK : ∀ a b c d e f g h, K a b c d e f g h = K' [a, b, c, d, e, f, g, h]) (hw : ww.length = 64) : ∀ (m i k : Nat) (va vb vc vd ve vf vg vh : Int), i + m = 64 → m < k →
    f92_1_l21 F k64 b s z ww K k va vb vc vd ve vf vg vh (i : Int) = K' (rds k64 ww m i [va, vb, vc, vd, ve, vf, vg, vh])
  | 0, i, k, va, vb, vc, vd, ve, vf, vg, vh, hi, hk => by
    obtain ⟨k, rfl⟩ : ∃ j, k = j + 1 := ⟨k - 1, by omega⟩
    simp only [f92_1_l21]
    rw [cf (by omega), hK]; rfl
  | m + 1, i, k, va, vb, vc, vd, ve, vf, vg, vh, hi, hk => by
    obtain ⟨k, rfl⟩ : ∃ j, k = j + 1 := ⟨k - 1, by omega⟩
    have e4 : IntKind.i64.wrap ((i : Int) + 1) = ((i + 1 : Nat) : Int) := by rw [w64 (by omega) (by omega)]; omega
    have q0 : i < k64.length := by rw [k64_len]; omega
    simp only [f92_1_l21, e4, hw, Int.toNat_natCast, Nat.zero_add]
    rw [ct (by omega), ct (by omega), ct q0, ct (by omega), ct (by omega),
      turnR (by omega) (by omega), turnR (by omega) (by omega), turnR (by omega) (by omega), turnR (by omega) (by omega), turnR (by omega) (by omega), turnR (by omega) (by omega)]
    exact rdR hK hw m (i + 1) k _ _ _ _ _ _ _ _ (by omega) (by omega)

theorem blkR {β : Type} {F : Nat} {s b : List Int} {K : List Int → Option β} (hF : 100 ≤ F) (hs : eight s) (hb : 64 ≤ b.length) : f92_1 F s k64 b K = K (blk s b) := by
  simp only [f92_1]
  rw [show ([0, 0, 0, 0, 0, 0, 0, 0, 0, 0, 0, 0, 0, 0, 0, 0, 0, 0, 0, 0, 0, 0, 0, 0, 0, 0, 0, 0, 0, 0, 0, 0, 0, 0, 0, 0, 0, 0, 0, 0, 0, 0, 0, 0, 0, 0, 0, 0, 0, 0, 0, 0, 0, 0, 0, 0, 0, 0, 0, 0, 0, 0, 0, 0] : List Int) = List.replicate 64 0 from rfl]
  have h0 := ldR (F := F) (b := b) (z := [0, 0, 0, 0, 0, 0, 0, 0]) (s := s) (y := k64) (K := fun x7 => f92_1_l7 F k64 b s [0, 0, 0, 0, 0, 0, 0, 0] (fun x18 => cond (decide (0 < s.length)) (cond (decide (1 < s.length)) (cond (decide (2 < s.length)) (cond (decide (3 < s.length)) (cond (decide (4 < s.length)) (cond (decide (5 < s.length)) (cond (decide (6 < s.length)) (cond (decide (7 < s.length)) (f92_1_l21 F k64 b s [0, 0, 0, 0, 0, 0, 0, 0] x18 (fun x39 x40 x41 x42 x43 x44 x45 x46 => cond (decide (0 < s.length)) (cond (decide (1 < s.length)) (cond (decide (2 < s.length)) (cond (decide (3 < s.length)) (cond (decide (4 < s.length)) (cond (decide (5 < s.length)) (cond (decide (6 < s.length)) (cond (decide (7 < s.length)) (K [IntKind.u32.wrap ((s.getD 0 0) + x39), IntKind.u32.wrap ((s.getD 1 0) + x40), IntKind.u32.wrap ((s.getD 2 0) + x41), IntKind.u32.wrap ((s.getD 3 0) + x42), IntKind.u32.wrap ((s.getD 4 0) + x43), IntKind.u32.wrap ((s.getD 5 0) + x44), IntKind.u32.wrap ((s.getD 6 0) + x45), IntKind.u32.wrap ((s.getD 7 0) + x46)]) none) none) none) none) none) none) none) none) F (s.getD 0 0) (s.getD 1 0) (s.getD 2 0) (s.getD 3 0) (s.getD 4 0) (s.getD 5 0) (s.getD 6 0) (s.getD 7 0) 0) none) none) none) none) none) none) none) none) F 16 x7) hb 16 0 F (List.replicate 64 0) (by omega) (by omega) (by simp)
  rw [show ((0 : Nat) : Int) = 0 from rfl] at h0
  rw [h0]
  rw [show (16 : Int) = ((16 : Nat) : Int) from rfl, exR 48 16 F _ (by omega) (by omega) (by omega) (by rw [ldr_len]; simp)]
  obtain ⟨a, b', c, d, e, f, g, h, rfl⟩ := hs
  have hw := wds_len b
  unfold blk
  unfold wds at hw ⊢
  rw [ct (by simp), ct (by simp), ct (by simp), ct (by simp), ct (by simp), ct (by simp), ct (by simp), ct (by simp)]
  have h1 := rdR (F := F) (b := b) (s := [a, b', c, d, e, f, g, h]) (z := [0, 0, 0, 0, 0, 0, 0, 0]) (K' := fun v => K (fin8 [a, b', c, d, e, f, g, h] v)) (K := fun x39 x40 x41 x42 x43 x44 x45 x46 =>
    K [IntKind.u32.wrap (a + x39), IntKind.u32.wrap (b' + x40), IntKind.u32.wrap (c + x41), IntKind.u32.wrap (d + x42), IntKind.u32.wrap (e + x43), IntKind.u32.wrap (f + x44), IntKind.u32.wrap (g + x45), IntKind.u32.wrap (h + x46)])
    (fun x1 x2 x3 x4 x5 x6 x7 x8 => by simp only [fin8]; rw [Int.add_comm a, Int.add_comm b', Int.add_comm c, Int.add_comm d, Int.add_comm e, Int.add_comm f, Int.add_comm g, Int.add_comm h]) hw 64 0 F a b' c d e f g h (by omega) (by omega)
  rw [show ((0 : Nat) : Int) = 0 from rfl] at h1
  exact h1

end Go.Proofs.Ytlokielmpdjedaa.X
