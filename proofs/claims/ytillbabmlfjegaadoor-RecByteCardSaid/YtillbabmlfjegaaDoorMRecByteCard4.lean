/- Merged: PureW, EvF113, EvF83, EvF42, EvF81, EvF40, RecA, EvF45, EvF16, EvF14, EvF82, EvF41, EvF11, RecB, RecC, RecT, PureRecByte. -/
import Derived.Test.YtillbabmlfjegaaDoorMRecByteCard3
import Derived.Test.YtillbabmlfjegaaDoorProg
import Derived.KernelRfl
section
/- Numbers of a fixed width: what wrapping and the bits' operations come to where nothing is lost. -/
namespace Go.Proofs.YtillbabmlfjegaaDoor.X
open Go Go.Proofs.YtillbabmlfjegaaDoor.Ev
set_option linter.unusedSectionVars false
variable [FZ]
set_option linter.unusedVariables false
set_option linter.unusedSimpArgs false

theorem w64 {x : Int} (h : -9223372036854775808 ≤ x) (h' : x ≤ 9223372036854775807) : IntKind.i64.wrap x = x := by
  simp only [IntKind.wrap, IntKind.bits, IntKind.signed, Bool.true_and]
  split <;> (rename_i hq; simp at hq; omega)

theorem wu64 {x : Int} (h : 0 ≤ x) (h' : x < 18446744073709551616) : IntKind.u64.wrap x = x := by
  simp only [IntKind.wrap, IntKind.bits, IntKind.signed, Bool.false_and]
  simp; omega

theorem wu32 {x : Int} (h : 0 ≤ x) (h' : x < 4294967296) : IntKind.u32.wrap x = x := by
  simp only [IntKind.wrap, IntKind.bits, IntKind.signed, Bool.false_and]
  simp; omega

theorem wu8 {x : Int} (h : 0 ≤ x) (h' : x < 256) : IntKind.u8.wrap x = x := by
  simp only [IntKind.wrap, IntKind.bits, IntKind.signed, Bool.false_and]
  simp; omega

theorem wu64m (x : Int) : IntKind.u64.wrap x = x % 18446744073709551616 := by
  simp only [IntKind.wrap, IntKind.bits, IntKind.signed, Bool.false_and]
  simp
theorem wu32m (x : Int) : IntKind.u32.wrap x = x % 4294967296 := by
  simp only [IntKind.wrap, IntKind.bits, IntKind.signed, Bool.false_and]
  simp
theorem wu8m (x : Int) : IntKind.u8.wrap x = x % 256 := by
  simp only [IntKind.wrap, IntKind.bits, IntKind.signed, Bool.false_and]
  simp

theorem i64_of_wf {n : Int} (h : (Lit.int .i64 n).wf = true) : -9223372036854775808 ≤ n ∧ n ≤ 9223372036854775807 := by
  simp [Lit.wf, IntKind.min, IntKind.max, IntKind.bits, IntKind.signed] at h; omega
theorem u64_of_wf {n : Int} (h : (Lit.int .u64 n).wf = true) : 0 ≤ n ∧ n < 18446744073709551616 := by
  simp [Lit.wf, IntKind.min, IntKind.max, IntKind.bits, IntKind.signed] at h; omega
theorem u8_of_wf {n : Int} (h : (Lit.int .u8 n).wf = true) : 0 ≤ n ∧ n < 256 := by
  simp [Lit.wf, IntKind.min, IntKind.max, IntKind.bits, IntKind.signed] at h; omega
theorem u32_of_wf {n : Int} (h : (Lit.int .u32 n).wf = true) : 0 ≤ n ∧ n < 4294967296 := by
  simp [Lit.wf, IntKind.min, IntKind.max, IntKind.bits, IntKind.signed] at h; omega

theorem or64 {A B : Nat} (hA : A < 2 ^ 64) (hB : B < 2 ^ 64) : ior .u64 (A : Int) (B : Int) = ((A ||| B : Nat) : Int) := by
  have h : (BitVec.ofInt 64 (A : Int) ||| BitVec.ofInt 64 (B : Int)).toNat = A ||| B := by
    simp [BitVec.toNat_or, BitVec.ofInt_natCast, BitVec.toNat_ofNat, Nat.mod_eq_of_lt hA, Nat.mod_eq_of_lt hB]
  have hl := Nat.or_lt_two_pow hA hB
  show IntKind.u64.wrap ((BitVec.ofInt 64 (A : Int) ||| BitVec.ofInt 64 (B : Int)).toNat : Int) = _
  rw [h, wu64 (by omega) (by omega)]
theorem and64 {A B : Nat} (hA : A < 2 ^ 64) (hB : B < 2 ^ 64) : iand .u64 (A : Int) (B : Int) = ((A &&& B : Nat) : Int) := by
  have h : (BitVec.ofInt 64 (A : Int) &&& BitVec.ofInt 64 (B : Int)).toNat = A &&& B := by
    simp [BitVec.toNat_and, BitVec.ofInt_natCast, BitVec.toNat_ofNat, Nat.mod_eq_of_lt hA, Nat.mod_eq_of_lt hB]
  have hl : A &&& B < 2 ^ 64 := Nat.and_lt_two_pow A hB
  show IntKind.u64.wrap ((BitVec.ofInt 64 (A : Int) &&& BitVec.ofInt 64 (B : Int)).toNat : Int) = _
  rw [h, wu64 (by omega) (by omega)]
theorem shl64 {i : Nat} (hi : i < 64) : ishl .u64 1 (i : Int) = ((2 ^ i : Nat) : Int) := by
  have h2 : (2 : Nat) ^ i < 2 ^ 64 := Nat.pow_lt_pow_right (by omega) hi
  have : (1 : Int) * 2 ^ (min i 64) = ((2 ^ i : Nat) : Int) := by
    rw [Nat.min_eq_left (by omega), Int.one_mul]; push_cast; rfl
  simp only [ishl, IntKind.bits, Int.toNat_natCast]
  rw [this, wu64 (Int.natCast_nonneg _) (Int.ofNat_lt.2 h2)]
theorem shr64 {A i : Nat} (hi : i < 64) : ishr .u64 (A : Int) (i : Int) = ((A >>> i : Nat) : Int) := by
  have : ((2 : Int) ^ i) = ((2 ^ i : Nat) : Int) := by push_cast; rfl
  simp only [ishr, IntKind.bits, Int.toNat_natCast]
  rw [Nat.min_eq_left (by omega), Int.fdiv_eq_ediv_of_nonneg _ (by rw [this]; exact Int.natCast_nonneg _), this, Nat.shiftRight_eq_div_pow]
  push_cast; rfl

/-- The number with given bits, below n. -/
def mk (f : Nat → Bool) : Nat → Nat
  | 0 => 0
  | n + 1 => if f n then mk f n ||| 2 ^ n else mk f n

theorem mk_lt (f : Nat → Bool) : ∀ n, mk f n < 2 ^ n
  | 0 => by simp [mk]
  | n + 1 => by
    have := mk_lt f n
    have h2 : (2 : Nat) ^ n < 2 ^ (n + 1) := Nat.pow_lt_pow_right (by omega) (by omega)
    simp only [mk]
    split
    · exact Nat.or_lt_two_pow (by omega) h2
    · omega

theorem mk_bit (f : Nat → Bool) : ∀ n j, (mk f n).testBit j = (decide (j < n) && f j)
  | 0, j => by simp [mk]
  | n + 1, j => by
    simp only [mk]
    split
    · rename_i h
      rw [Nat.testBit_or, mk_bit f n, Nat.testBit_two_pow]
      by_cases hj : j = n
      · subst hj; simp [h]
      · have h1 : decide (j < n) = decide (j < n + 1) := decide_eq_decide.2 (by omega)
        simp [Ne.symm hj, h1]
    · rename_i h
      rw [mk_bit f n]
      by_cases hj : j = n
      · subst hj; simp at h; simp [h]
      · have h1 : decide (j < n) = decide (j < n + 1) := decide_eq_decide.2 (by omega)
        rw [h1]

theorem mk_eq {A n : Nat} {f : Nat → Bool} (hA : A < 2 ^ n) (h : ∀ j, j < n → f j = A.testBit j) : mk f n = A := by
  apply Nat.eq_of_testBit_eq
  intro j
  rw [mk_bit]
  by_cases hj : j < n
  · simp [hj, h j hj]
  · simp [hj]
    exact Nat.testBit_lt_two_pow (Nat.lt_of_lt_of_le hA (Nat.pow_le_pow_right (by omega) (by omega)))

theorem bit_test {A i : Nat} : ((A >>> i &&& 1 : Nat) == 1) = A.testBit i := by
  simp [Nat.testBit, Nat.and_comm]

theorem natbeq {a b : Nat} : (((a : Int) == ((b : Nat) : Int)) : Bool) = (a == b) := by
  rw [Bool.eq_iff_iff]; simp; omega

theorem tdiv_nn {a b : Nat} : ((a : Int).tdiv (b : Int)) = ((a / b : Nat) : Int) := by
  rw [Int.tdiv_eq_ediv_of_nonneg (by omega)]; rfl
theorem tmod_nn {a b : Nat} : ((a : Int).tmod (b : Int)) = ((a % b : Nat) : Int) := by
  rw [Int.tmod_eq_emod_of_nonneg (by omega)]; rfl

theorem lbeq_refl (k : EK) (hr : ∀ x : k.den, k.beq x x = true) : ∀ l : List k.den, lbeq k l l = true
  | [] => rfl
  | x :: r => by simp [lbeq, hr x, lbeq_refl k hr r]
theorem lbeq_int (k : IntKind) (l : List Int) : lbeq (.int k) l l = true := lbeq_refl (.int k) (fun x => by simp [EK.beq]) l
theorem lbeq_int_iff (k : IntKind) : ∀ (l r : List Int), lbeq (.int k) l r = true ↔ l = r
  | [], [] => by simp [lbeq]
  | [], _ :: _ => by simp [lbeq]
  | _ :: _, [] => by simp [lbeq]
  | x :: l, y :: r => by simp [lbeq, EK.beq, lbeq_int_iff k l r]

theorem ct {α : Sort _} {p : Prop} [Decidable p] {a b : α} (h : p) : cond (decide p) a b = a := by simp [h]
theorem cf {α : Sort _} {p : Prop} [Decidable p] {a b : α} (h : ¬ p) : cond (decide p) a b = b := by simp [h]

end Go.Proofs.YtillbabmlfjegaaDoor.X
end

section
namespace Go.Proofs.YtillbabmlfjegaaDoor.X
open Go Go.Proofs.YtillbabmlfjegaaDoor.Ev Go.Proofs
set_option linter.unusedVariables false
set_option linter.unusedSectionVars false
/-! pentimentoref02.Entry -/
noncomputable def f113_1_l3 {β : Type} (F : Nat)  (K0 : Int → Option β) : Nat → Int → Int → Option β
  | 0, _, _ => none
  | k + 1, v1, v2 => cond (decide (v2 < 8)) (cond ((v1.tmod 2) == 1) (f113_1_l3 F K0 k (ixor .u32 (IntKind.u32.wrap (v1.tdiv 2)) 2197175160) (IntKind.i64.wrap (v2 + 1))) (f113_1_l3 F K0 k (IntKind.u32.wrap (v1.tdiv 2)) (IntKind.i64.wrap (v2 + 1)))) (K0 v1)
noncomputable def f113_1 {β : Type} (F : Nat) (a1 : Int) (K0 : Int → Option β) : Option β := f113_1_l3 F  (fun x3 => K0 x3) F (IntKind.u32.wrap a1) 0
variable [FZ]
def sh113_1 : Sh := ⟨[.lf (.int .u8)], []⟩
noncomputable def S113_1 (F : Nat) (o : Summ) : Summ := mkS sh113_1 (fun d K => f113_1 F d.1.1 (fun (y0 : Int) => K [.lf (.int .u32 y0)] [])) o
noncomputable def code113 : Code := bodyOf Tryd.f113
noncomputable def b113_0 : Code := cB (cB (cR (cL (cR (cR (code113))))))
theorem scopes113 : scopesOf code113 = [] := by kernel_rfl
theorem ranges113 : rangesOf code113 = [] := by kernel_rfl
theorem loops113 : loopsOf code113 = [b113_0] := by kernel_rfl
theorem enter113 : ∀ args w, (callFunc 113 args).run Tryd.prog w = .ok (.enter 113 args) w := enter_of (fn := Tryd.f113) (by kernel_rfl) (by kernel_rfl) (by kernel_rfl)
noncomputable def T113_1 (F : Nat) : FuncId → Option Summ := tab []
def sh113_1_l3 : Sh := ⟨[.lf (.int .u32), .lf (.int .i64)], []⟩
noncomputable def G113_1_3 (F k : Nat) : LoopS := mkG sh113_1_l3 [3, 4] (outT [(.exit 0, [3])]) (fun d K => f113_1_l3 F (fun (y0 : Int) => K (.exit 0) [.tv (.lf (.int .u32 y0))] []) k d.1.1 d.1.2.1) []
noncomputable def LT113_1 (F : Nat) : Nat → Option LoopS := ltab [(3, G113_1_3 F F)]
theorem L113_1_l3g (F k : Nat)   (l3 : (Int → Option Res) → Nat → Int → Int → Option Res) (X3 : LoopS) (d : sh113_1_l3.den) (K : KL) : (fun (K0 : (Int → Option Res)) (k : Nat) (v1 : Int) (v2 : Int) => cond (decide (v2 < 8)) (cond ((v1.tmod 2) == 1) (l3 K0 k (ixor .u32 (IntKind.u32.wrap (v1.tdiv 2)) 2197175160) (IntKind.i64.wrap (v2 + 1))) (l3 K0 k (IntKind.u32.wrap (v1.tdiv 2)) (IntKind.i64.wrap (v2 + 1)))) (K0 v1)) (fun (y0 : Int) => K (.exit 0) [.tv (.lf (.int .u32 y0))] []) k d.1.1 d.1.2.1 = roundOf Tryd.prog (tab []) (xw []) 20 0 (ltab [(3, X3)]) (mkG sh113_1_l3 [3, 4] (outT [(.exit 0, [3])]) (fun d K => l3 (fun (y0 : Int) => K (.exit 0) [.tv (.lf (.int .u32 y0))] []) k d.1.1 d.1.2.1) []) b113_0 (encT sh113_1_l3.vs d.1) (encH sh113_1_l3.h d.2) K := by kernel_rfl
theorem L113_1_3 (F : Nat) : LoopOK Tryd.prog (T113_1 F) (xw []) 20 0 (LT113_1 F) (G113_1_3 F F) b113_0 :=
  loopOK_of (s := sh113_1_l3) (live := [3, 4]) (out := (outT [(.exit 0, [3])])) (mv := []) (fun k d K => f113_1_l3 F (fun (y0 : Int) => K (.exit 0) [.tv (.lf (.int .u32 y0))] []) k d.1.1 d.1.2.1) F (fun d K => by kernel_rfl)  (fun k d K => Eq.mp (by kernel_rfl) (L113_1_l3g F k   (f113_1_l3 F) (G113_1_3 F F) d K))
theorem E113_1g (F : Nat)  (l3 : (Int → Option Res) → Nat → Int → Int → Option Res)  (d : sh113_1.den) (K : KF) : evBody Tryd.prog (tab []) (xw []) 20 0 (ltab [(3, mkG sh113_1_l3 [3, 4] (outT [(.exit 0, [3])]) (fun d K => l3 (fun (y0 : Int) => K (.exit 0) [.tv (.lf (.int .u32 y0))] []) F d.1.1 d.1.2.1) [])]) code113 Tryd.f113.results.toList (encT sh113_1.vs d.1) (encH sh113_1.h d.2) K = (fun (a1 : Int) (K0 : (Int → Option Res)) => l3  (fun x3 => K0 x3) F (IntKind.u32.wrap a1) 0) d.1.1 (fun (y0 : Int) => K [.lf (.int .u32 y0)] []) := by kernel_rfl
theorem E113_1 (F : Nat) (d : sh113_1.den) (K : KF) : evBody Tryd.prog (T113_1 F) (xw []) 20 0 (LT113_1 F) code113 Tryd.f113.results.toList (encT sh113_1.vs d.1) (encH sh113_1.h d.2) K = f113_1 F d.1.1 (fun (y0 : Int) => K [.lf (.int .u32 y0)] []) := Eq.mp (by kernel_rfl) (E113_1g F  (f113_1_l3 F)  d K)
theorem S113_1_ok (F : Nat) (o : Summ) (ho : SoundFn Tryd.prog 113 o) : SoundFn Tryd.prog 113 (S113_1 F o) :=
  soundFn_of (fn := Tryd.f113) (c := code113) rfl rfl (by kernel_rfl) tab_nil (by kernel_rfl) (by kernel_rfl) ho (by rw [loops113]; exact (loopsOK_cons (by kernel_rfl) (L113_1_3 F) loopsOK_nil)) (by rw [scopes113]; exact scopesOK_nil) (by rw [ranges113]; exact rangesOK_nil) (E113_1 F)
end Go.Proofs.YtillbabmlfjegaaDoor.X
end

section
namespace Go.Proofs.YtillbabmlfjegaaDoor.X
open Go Go.Proofs.YtillbabmlfjegaaDoor.Ev Go.Proofs
set_option linter.unusedVariables false
set_option linter.unusedSectionVars false
/-! pentimentoref02.Add -/
noncomputable def f83_1_l3 {β : Type} (F : Nat) (v3 : List Int) (K0 : Int → Option β) : Nat → Int → Int → Option β
  | 0, _, _ => none
  | k + 1, v1, v2 => cond (decide (v2 < ((v3.length : Nat) : Int))) (cond (decide ((0 : Int) ≤ v2 ∧ v2 < ((v3.length : Nat) : Int))) (cond (decide (0 + v2.toNat < v3.length)) (f113_1 F (ixor .u8 (IntKind.u8.wrap v1) (v3.getD (0 + v2.toNat) 0)) (fun x4 => f83_1_l3 F v3 K0 k (ixor .u32 (IntKind.u32.wrap (v1.tdiv 256)) x4) (IntKind.i64.wrap (v2 + 1))) ) none) none) (K0 v1)
noncomputable def f83_1 {β : Type} (F : Nat) (a1 : Int) (a2 : List Int) (K0 : Int → Option β) : Option β := f83_1_l3 F a2 (fun x5 => K0 (ixor .u32 4294967295 x5)) F (ixor .u32 4294967295 a1) 0
variable [FZ]
def sh83_1 : Sh := ⟨[.lf (.int .u32), .lf (.full 0)], [some ⟨none, [.seq (.int .u8) 0]⟩]⟩
noncomputable def S83_1 (F : Nat) (o : Summ) : Summ := mkS sh83_1 (fun d K => f83_1 F d.1.1 d.2.1.2.1 (fun (y0 : Int) => K [.lf (.int .u32 y0)] [some ⟨d.2.1.1, [.seq (.int .u8) 0 d.2.1.2.1]⟩])) o
noncomputable def code83 : Code := bodyOf Tryd.f83
noncomputable def b83_0 : Code := cB (cB (cR (cL (cR (cR (code83))))))
theorem scopes83 : scopesOf code83 = [] := by kernel_rfl
theorem ranges83 : rangesOf code83 = [] := by kernel_rfl
theorem loops83 : loopsOf code83 = [b83_0] := by kernel_rfl
theorem enter83 : ∀ args w, (callFunc 83 args).run Tryd.prog w = .ok (.enter 83 args) w := enter_of (fn := Tryd.f83) (by kernel_rfl) (by kernel_rfl) (by kernel_rfl)
noncomputable def T83_1 (F : Nat) : FuncId → Option Summ := tab [(113, (S113_1 F noS))]
def sh83_1_l3 : Sh := ⟨[.lf (.full 0), .lf (.int .u32), .lf (.int .i64)], [some ⟨none, [.seq (.int .u8) 0]⟩]⟩
noncomputable def G83_1_3 (F k : Nat) : LoopS := mkG sh83_1_l3 [1, 5, 6] (outT [(.exit 0, [5])]) (fun d K => f83_1_l3 F d.2.1.2.1 (fun (y0 : Int) => K (.exit 0) [.tv (.lf (.int .u32 y0))] [some ⟨d.2.1.1, [.seq (.int .u8) 0 d.2.1.2.1]⟩]) k d.1.2.1 d.1.2.2.1) []
noncomputable def LT83_1 (F : Nat) : Nat → Option LoopS := ltab [(3, G83_1_3 F F)]
theorem L83_1_l3g (F k : Nat) (c113_1 : Int → (Int → Option Res) → Option Res)  (l3 : List Int → (Int → Option Res) → Nat → Int → Int → Option Res) (X3 : LoopS) (d : sh83_1_l3.den) (K : KL) : (fun (v3 : List Int) (K0 : (Int → Option Res)) (k : Nat) (v1 : Int) (v2 : Int) => cond (decide (v2 < ((v3.length : Nat) : Int))) (cond (decide ((0 : Int) ≤ v2 ∧ v2 < ((v3.length : Nat) : Int))) (cond (decide (0 + v2.toNat < v3.length)) (c113_1 (ixor .u8 (IntKind.u8.wrap v1) (v3.getD (0 + v2.toNat) 0)) (fun x4 => l3 v3 K0 k (ixor .u32 (IntKind.u32.wrap (v1.tdiv 256)) x4) (IntKind.i64.wrap (v2 + 1))) ) none) none) (K0 v1)) d.2.1.2.1 (fun (y0 : Int) => K (.exit 0) [.tv (.lf (.int .u32 y0))] [some ⟨d.2.1.1, [.seq (.int .u8) 0 d.2.1.2.1]⟩]) k d.1.2.1 d.1.2.2.1 = roundOf Tryd.prog (tab [(113, (mkS sh113_1 (fun d K => c113_1 d.1.1 (fun (y0 : Int) => K [.lf (.int .u32 y0)] [])) noS))]) (xw []) 28 1 (ltab [(3, X3)]) (mkG sh83_1_l3 [1, 5, 6] (outT [(.exit 0, [5])]) (fun d K => l3 d.2.1.2.1 (fun (y0 : Int) => K (.exit 0) [.tv (.lf (.int .u32 y0))] [some ⟨d.2.1.1, [.seq (.int .u8) 0 d.2.1.2.1]⟩]) k d.1.2.1 d.1.2.2.1) []) b83_0 (encT sh83_1_l3.vs d.1) (encH sh83_1_l3.h d.2) K := by kernel_rfl
theorem L83_1_3 (F : Nat) : LoopOK Tryd.prog (T83_1 F) (xw []) 28 1 (LT83_1 F) (G83_1_3 F F) b83_0 :=
  loopOK_of (s := sh83_1_l3) (live := [1, 5, 6]) (out := (outT [(.exit 0, [5])])) (mv := []) (fun k d K => f83_1_l3 F d.2.1.2.1 (fun (y0 : Int) => K (.exit 0) [.tv (.lf (.int .u32 y0))] [some ⟨d.2.1.1, [.seq (.int .u8) 0 d.2.1.2.1]⟩]) k d.1.2.1 d.1.2.2.1) F (fun d K => by kernel_rfl)  (fun k d K => Eq.mp (by kernel_rfl) (L83_1_l3g F k (f113_1 F)  (f83_1_l3 F) (G83_1_3 F F) d K))
theorem E83_1g (F : Nat) (c113_1 : Int → (Int → Option Res) → Option Res) (l3 : List Int → (Int → Option Res) → Nat → Int → Int → Option Res)  (d : sh83_1.den) (K : KF) : evBody Tryd.prog (tab [(113, (mkS sh113_1 (fun d K => c113_1 d.1.1 (fun (y0 : Int) => K [.lf (.int .u32 y0)] [])) noS))]) (xw []) 28 1 (ltab [(3, mkG sh83_1_l3 [1, 5, 6] (outT [(.exit 0, [5])]) (fun d K => l3 d.2.1.2.1 (fun (y0 : Int) => K (.exit 0) [.tv (.lf (.int .u32 y0))] [some ⟨d.2.1.1, [.seq (.int .u8) 0 d.2.1.2.1]⟩]) F d.1.2.1 d.1.2.2.1) [])]) code83 Tryd.f83.results.toList (encT sh83_1.vs d.1) (encH sh83_1.h d.2) K = (fun (a1 : Int) (a2 : List Int) (K0 : (Int → Option Res)) => l3 a2 (fun x5 => K0 (ixor .u32 4294967295 x5)) F (ixor .u32 4294967295 a1) 0) d.1.1 d.2.1.2.1 (fun (y0 : Int) => K [.lf (.int .u32 y0)] [some ⟨d.2.1.1, [.seq (.int .u8) 0 d.2.1.2.1]⟩]) := by kernel_rfl
theorem E83_1 (F : Nat) (d : sh83_1.den) (K : KF) : evBody Tryd.prog (T83_1 F) (xw []) 28 1 (LT83_1 F) code83 Tryd.f83.results.toList (encT sh83_1.vs d.1) (encH sh83_1.h d.2) K = f83_1 F d.1.1 d.2.1.2.1 (fun (y0 : Int) => K [.lf (.int .u32 y0)] [some ⟨d.2.1.1, [.seq (.int .u8) 0 d.2.1.2.1]⟩]) := Eq.mp (by kernel_rfl) (E83_1g F (f113_1 F) (f83_1_l3 F)  d K)
theorem S83_1_ok (F : Nat) (o : Summ) (ho : SoundFn Tryd.prog 83 o) : SoundFn Tryd.prog 83 (S83_1 F o) :=
  soundFn_of (fn := Tryd.f83) (c := code83) rfl rfl (by kernel_rfl) (tab_cons (S113_1_ok F _ (noS_sound enter113)) tab_nil) (by kernel_rfl) (by kernel_rfl) ho (by rw [loops83]; exact (loopsOK_cons (by kernel_rfl) (L83_1_3 F) loopsOK_nil)) (by rw [scopes83]; exact scopesOK_nil) (by rw [ranges83]; exact rangesOK_nil) (E83_1 F)
end Go.Proofs.YtillbabmlfjegaaDoor.X
end

section
namespace Go.Proofs.YtillbabmlfjegaaDoor.X
open Go Go.Proofs.YtillbabmlfjegaaDoor.Ev Go.Proofs
set_option linter.unusedVariables false
set_option linter.unusedSectionVars false
/-! pentimentoref02.Sum -/
noncomputable def f42_1 {β : Type} (F : Nat) (a1 : List Int) (K0 : Int → Option β) : Option β := f83_1 F 0 a1 (fun x1 => K0 x1) 
variable [FZ]
def sh42_1 : Sh := ⟨[.lf (.full 0)], [some ⟨none, [.seq (.int .u8) 0]⟩]⟩
noncomputable def S42_1 (F : Nat) (o : Summ) : Summ := mkS sh42_1 (fun d K => f42_1 F d.2.1.2.1 (fun (y0 : Int) => K [.lf (.int .u32 y0)] [some ⟨d.2.1.1, [.seq (.int .u8) 0 d.2.1.2.1]⟩])) o
noncomputable def code42 : Code := bodyOf Tryd.f42
theorem scopes42 : scopesOf code42 = [] := by kernel_rfl
theorem ranges42 : rangesOf code42 = [] := by kernel_rfl
theorem loops42 : loopsOf code42 = [] := by kernel_rfl
theorem enter42 : ∀ args w, (callFunc 42 args).run Tryd.prog w = .ok (.enter 42 args) w := enter_of (fn := Tryd.f42) (by kernel_rfl) (by kernel_rfl) (by kernel_rfl)
noncomputable def T42_1 (F : Nat) : FuncId → Option Summ := tab [(83, (S83_1 F noS))]
noncomputable def LT42_1 (F : Nat) : Nat → Option LoopS := ltab []
theorem E42_1g (F : Nat) (c83_1 : Int → List Int → (Int → Option Res) → Option Res)   (d : sh42_1.den) (K : KF) : evBody Tryd.prog (tab [(83, (mkS sh83_1 (fun d K => c83_1 d.1.1 d.2.1.2.1 (fun (y0 : Int) => K [.lf (.int .u32 y0)] [some ⟨d.2.1.1, [.seq (.int .u8) 0 d.2.1.2.1]⟩])) noS))]) (xw []) 5 1 (ltab []) code42 Tryd.f42.results.toList (encT sh42_1.vs d.1) (encH sh42_1.h d.2) K = (fun (a1 : List Int) (K0 : (Int → Option Res)) => c83_1 0 a1 (fun x1 => K0 x1) ) d.2.1.2.1 (fun (y0 : Int) => K [.lf (.int .u32 y0)] [some ⟨d.2.1.1, [.seq (.int .u8) 0 d.2.1.2.1]⟩]) := by kernel_rfl
theorem E42_1 (F : Nat) (d : sh42_1.den) (K : KF) : evBody Tryd.prog (T42_1 F) (xw []) 5 1 (LT42_1 F) code42 Tryd.f42.results.toList (encT sh42_1.vs d.1) (encH sh42_1.h d.2) K = f42_1 F d.2.1.2.1 (fun (y0 : Int) => K [.lf (.int .u32 y0)] [some ⟨d.2.1.1, [.seq (.int .u8) 0 d.2.1.2.1]⟩]) := Eq.mp (by kernel_rfl) (E42_1g F (f83_1 F)   d K)
theorem S42_1_ok (F : Nat) (o : Summ) (ho : SoundFn Tryd.prog 42 o) : SoundFn Tryd.prog 42 (S42_1 F o) :=
  soundFn_of (fn := Tryd.f42) (c := code42) rfl rfl (by kernel_rfl) (tab_cons (S83_1_ok F _ (noS_sound enter83)) tab_nil) (by kernel_rfl) (by kernel_rfl) ho (by rw [loops42]; exact loopsOK_nil) (by rw [scopes42]; exact scopesOK_nil) (by rw [ranges42]; exact rangesOK_nil) (E42_1 F)
end Go.Proofs.YtillbabmlfjegaaDoor.X
end

section
namespace Go.Proofs.YtillbabmlfjegaaDoor.X
open Go Go.Proofs.YtillbabmlfjegaaDoor.Ev Go.Proofs
set_option linter.unusedVariables false
set_option linter.unusedSectionVars false
/-! pentimentoref01.Put -/
noncomputable def f81_1_l6 {β : Type} (F : Nat) (v1 : Int) (v3 : List Int) (K0 : List Int → Option β) : Nat → Int → List Int → Option β
  | 0, _, _ => none
  | k + 1, v2, v4 => cond (decide (v2 ≥ 0)) (cond (decide (IntKind.u64.wrap (IntKind.i64.wrap (8 * v2)) < 0)) none (cond (decide ((v4.length + 1) * 1 ≤ 70368744177664)) (f81_1_l6 F v1 v3 K0 k (IntKind.i64.wrap (v2 - 1)) (v4 ++ [IntKind.u8.wrap (ishr .u64 v1 (IntKind.u64.wrap (IntKind.i64.wrap (8 * v2))))])) none)) (K0 v4)
noncomputable def f81_1 {β : Type} (F : Nat) (a1 : Int) (a2 : Int) (a3 : List Int) (K0 : List Int → Option β) : Option β := cond (decide (a3.length * 1 ≤ 70368744177664)) (cond (decide (a1 < 1)) (K0 a3) (cond (decide (a1 > 8)) (K0 a3) (f81_1_l6 F a2 a3 (fun x5 => K0 x5) F (IntKind.i64.wrap (a1 - 1)) a3))) none
variable [FZ]
def sh81_1 : Sh := ⟨[.lf (.full 0), .lf (.int .i64), .lf (.int .u64)], [some ⟨none, [.seq (.int .u8) 0]⟩]⟩
noncomputable def S81_1 (F : Nat) (o : Summ) : Summ := mkS sh81_1 (fun d K => f81_1 F d.1.2.1 d.1.2.2.1 d.2.1.2.1 (fun (y1 : List Int) => K [.lf (.full 1)] [some ⟨d.2.1.1, [.seq (.int .u8) 0 d.2.1.2.1]⟩, some ⟨false, [.seq (.int .u8) 0 y1]⟩])) o
noncomputable def code81 : Code := bodyOf Tryd.f81
noncomputable def b81_0 : Code := cB (cB (cR (cL (cR (cR (cR (cR (code81))))))))
theorem scopes81 : scopesOf code81 = [] := by kernel_rfl
theorem ranges81 : rangesOf code81 = [] := by kernel_rfl
theorem loops81 : loopsOf code81 = [b81_0] := by kernel_rfl
theorem enter81 : ∀ args w, (callFunc 81 args).run Tryd.prog w = .ok (.enter 81 args) w := enter_of (fn := Tryd.f81) (by kernel_rfl) (by kernel_rfl) (by kernel_rfl)
noncomputable def T81_1 (F : Nat) : FuncId → Option Summ := tab []
def sh81_1_l6 : Sh := ⟨[.lf (.int .u64), .lf (.full 1), .lf (.int .i64)], [some ⟨none, [.seq (.int .u8) 0]⟩, some ⟨some false, [.seq (.int .u8) 0]⟩]⟩
noncomputable def G81_1_6 (F k : Nat) : LoopS := mkG sh81_1_l6 [2, 7, 8] (outT [(.exit 0, [7])]) (fun d K => f81_1_l6 F d.1.1 d.2.1.2.1 (fun (y1 : List Int) => K (.exit 0) [.tv (.lf (.full 1))] [some ⟨d.2.1.1, [.seq (.int .u8) 0 d.2.1.2.1]⟩, some ⟨false, [.seq (.int .u8) 0 y1]⟩]) k d.1.2.2.1 d.2.2.1.2.1) []
noncomputable def LT81_1 (F : Nat) : Nat → Option LoopS := ltab [(6, G81_1_6 F F)]
theorem L81_1_l6g (F k : Nat)   (l6 : Int → List Int → (List Int → Option Res) → Nat → Int → List Int → Option Res) (X6 : LoopS) (d : sh81_1_l6.den) (K : KL) : (fun (v1 : Int) (v3 : List Int) (K0 : (List Int → Option Res)) (k : Nat) (v2 : Int) (v4 : List Int) => cond (decide (v2 ≥ 0)) (cond (decide (IntKind.u64.wrap (IntKind.i64.wrap (8 * v2)) < 0)) none (cond (decide ((v4.length + 1) * 1 ≤ 70368744177664)) (l6 v1 v3 K0 k (IntKind.i64.wrap (v2 - 1)) (v4 ++ [IntKind.u8.wrap (ishr .u64 v1 (IntKind.u64.wrap (IntKind.i64.wrap (8 * v2))))])) none)) (K0 v4)) d.1.1 d.2.1.2.1 (fun (y1 : List Int) => K (.exit 0) [.tv (.lf (.full 1))] [some ⟨d.2.1.1, [.seq (.int .u8) 0 d.2.1.2.1]⟩, some ⟨false, [.seq (.int .u8) 0 y1]⟩]) k d.1.2.2.1 d.2.2.1.2.1 = roundOf Tryd.prog (tab []) (xw []) 35 1 (ltab [(6, X6)]) (mkG sh81_1_l6 [2, 7, 8] (outT [(.exit 0, [7])]) (fun d K => l6 d.1.1 d.2.1.2.1 (fun (y1 : List Int) => K (.exit 0) [.tv (.lf (.full 1))] [some ⟨d.2.1.1, [.seq (.int .u8) 0 d.2.1.2.1]⟩, some ⟨false, [.seq (.int .u8) 0 y1]⟩]) k d.1.2.2.1 d.2.2.1.2.1) []) b81_0 (encT sh81_1_l6.vs d.1) (encH sh81_1_l6.h d.2) K := by kernel_rfl
theorem L81_1_6 (F : Nat) : LoopOK Tryd.prog (T81_1 F) (xw []) 35 1 (LT81_1 F) (G81_1_6 F F) b81_0 :=
  loopOK_of (s := sh81_1_l6) (live := [2, 7, 8]) (out := (outT [(.exit 0, [7])])) (mv := []) (fun k d K => f81_1_l6 F d.1.1 d.2.1.2.1 (fun (y1 : List Int) => K (.exit 0) [.tv (.lf (.full 1))] [some ⟨d.2.1.1, [.seq (.int .u8) 0 d.2.1.2.1]⟩, some ⟨false, [.seq (.int .u8) 0 y1]⟩]) k d.1.2.2.1 d.2.2.1.2.1) F (fun d K => by kernel_rfl)  (fun k d K => Eq.mp (by kernel_rfl) (L81_1_l6g F k   (f81_1_l6 F) (G81_1_6 F F) d K))
theorem E81_1g (F : Nat)  (l6 : Int → List Int → (List Int → Option Res) → Nat → Int → List Int → Option Res)  (d : sh81_1.den) (K : KF) : evBody Tryd.prog (tab []) (xw []) 35 1 (ltab [(6, mkG sh81_1_l6 [2, 7, 8] (outT [(.exit 0, [7])]) (fun d K => l6 d.1.1 d.2.1.2.1 (fun (y1 : List Int) => K (.exit 0) [.tv (.lf (.full 1))] [some ⟨d.2.1.1, [.seq (.int .u8) 0 d.2.1.2.1]⟩, some ⟨false, [.seq (.int .u8) 0 y1]⟩]) F d.1.2.2.1 d.2.2.1.2.1) [])]) code81 Tryd.f81.results.toList (encT sh81_1.vs d.1) (encH sh81_1.h d.2) K = (fun (a1 : Int) (a2 : Int) (a3 : List Int) (K0 : (List Int → Option Res)) => cond (decide (a3.length * 1 ≤ 70368744177664)) (cond (decide (a1 < 1)) (K0 a3) (cond (decide (a1 > 8)) (K0 a3) (l6 a2 a3 (fun x5 => K0 x5) F (IntKind.i64.wrap (a1 - 1)) a3))) none) d.1.2.1 d.1.2.2.1 d.2.1.2.1 (fun (y1 : List Int) => K [.lf (.full 1)] [some ⟨d.2.1.1, [.seq (.int .u8) 0 d.2.1.2.1]⟩, some ⟨false, [.seq (.int .u8) 0 y1]⟩]) := by kernel_rfl
theorem E81_1 (F : Nat) (d : sh81_1.den) (K : KF) : evBody Tryd.prog (T81_1 F) (xw []) 35 1 (LT81_1 F) code81 Tryd.f81.results.toList (encT sh81_1.vs d.1) (encH sh81_1.h d.2) K = f81_1 F d.1.2.1 d.1.2.2.1 d.2.1.2.1 (fun (y1 : List Int) => K [.lf (.full 1)] [some ⟨d.2.1.1, [.seq (.int .u8) 0 d.2.1.2.1]⟩, some ⟨false, [.seq (.int .u8) 0 y1]⟩]) := Eq.mp (by kernel_rfl) (E81_1g F  (f81_1_l6 F)  d K)
theorem S81_1_ok (F : Nat) (o : Summ) (ho : SoundFn Tryd.prog 81 o) : SoundFn Tryd.prog 81 (S81_1 F o) :=
  soundFn_of (fn := Tryd.f81) (c := code81) rfl rfl (by kernel_rfl) tab_nil (by kernel_rfl) (by kernel_rfl) ho (by rw [loops81]; exact (loopsOK_cons (by kernel_rfl) (L81_1_6 F) loopsOK_nil)) (by rw [scopes81]; exact scopesOK_nil) (by rw [ranges81]; exact rangesOK_nil) (E81_1 F)
end Go.Proofs.YtillbabmlfjegaaDoor.X
end

section
namespace Go.Proofs.YtillbabmlfjegaaDoor.X
open Go Go.Proofs.YtillbabmlfjegaaDoor.Ev Go.Proofs
set_option linter.unusedVariables false
set_option linter.unusedSectionVars false
/-! pentimentoref01.Text -/
noncomputable def f40_1 {β : Type} (F : Nat) (a1 : Int) (a2 : Int) (K0 : ByteArray → Option β) : Option β := f81_1 F a1 a2 [] (fun x1 => K0 (ofInts x1)) 
variable [FZ]
def sh40_1 : Sh := ⟨[.lf (.int .i64), .lf (.int .u64)], []⟩
noncomputable def S40_1 (F : Nat) (o : Summ) : Summ := mkS sh40_1 (fun d K => f40_1 F d.1.1 d.1.2.1 (fun (y0 : ByteArray) => K [.lf (.str y0)] [])) o
noncomputable def code40 : Code := bodyOf Tryd.f40
theorem scopes40 : scopesOf code40 = [] := by kernel_rfl
theorem ranges40 : rangesOf code40 = [] := by kernel_rfl
theorem loops40 : loopsOf code40 = [] := by kernel_rfl
theorem enter40 : ∀ args w, (callFunc 40 args).run Tryd.prog w = .ok (.enter 40 args) w := enter_of (fn := Tryd.f40) (by kernel_rfl) (by kernel_rfl) (by kernel_rfl)
noncomputable def T40_1 (F : Nat) : FuncId → Option Summ := tab [(81, (S81_1 F noS))]
noncomputable def LT40_1 (F : Nat) : Nat → Option LoopS := ltab []
theorem E40_1g (F : Nat) (c81_1 : Int → Int → List Int → (List Int → Option Res) → Option Res)   (d : sh40_1.den) (K : KF) : evBody Tryd.prog (tab [(81, (mkS sh81_1 (fun d K => c81_1 d.1.2.1 d.1.2.2.1 d.2.1.2.1 (fun (y1 : List Int) => K [.lf (.full 1)] [some ⟨d.2.1.1, [.seq (.int .u8) 0 d.2.1.2.1]⟩, some ⟨false, [.seq (.int .u8) 0 y1]⟩])) noS))]) (xw []) 9 0 (ltab []) code40 Tryd.f40.results.toList (encT sh40_1.vs d.1) (encH sh40_1.h d.2) K = (fun (a1 : Int) (a2 : Int) (K0 : (ByteArray → Option Res)) => c81_1 a1 a2 [] (fun x1 => K0 (ofInts x1)) ) d.1.1 d.1.2.1 (fun (y0 : ByteArray) => K [.lf (.str y0)] []) := by kernel_rfl
theorem E40_1 (F : Nat) (d : sh40_1.den) (K : KF) : evBody Tryd.prog (T40_1 F) (xw []) 9 0 (LT40_1 F) code40 Tryd.f40.results.toList (encT sh40_1.vs d.1) (encH sh40_1.h d.2) K = f40_1 F d.1.1 d.1.2.1 (fun (y0 : ByteArray) => K [.lf (.str y0)] []) := Eq.mp (by kernel_rfl) (E40_1g F (f81_1 F)   d K)
theorem S40_1_ok (F : Nat) (o : Summ) (ho : SoundFn Tryd.prog 40 o) : SoundFn Tryd.prog 40 (S40_1 F o) :=
  soundFn_of (fn := Tryd.f40) (c := code40) rfl rfl (by kernel_rfl) (tab_cons (S81_1_ok F _ (noS_sound enter81)) tab_nil) (by kernel_rfl) (by kernel_rfl) ho (by rw [loops40]; exact loopsOK_nil) (by rw [scopes40]; exact scopesOK_nil) (by rw [ranges40]; exact rangesOK_nil) (E40_1 F)
end Go.Proofs.YtillbabmlfjegaaDoor.X
end

section
/- Records: sums, numbers as bytes; the code's and the document's, in one form. -/
namespace Go.Proofs.YtillbabmlfjegaaDoor.X
open Go Go.Proofs.YtillbabmlfjegaaDoor.Ev
set_option linter.unusedSectionVars false
variable [FZ]
set_option linter.unusedVariables false
set_option linter.unusedSimpArgs false

theorem x32 (x y : Int) : 0 ≤ ixor .u32 x y ∧ ixor .u32 x y < 4294967296 := by
  unfold ixor; rw [wu32m]; omega
theorem x8 (x y : Int) : 0 ≤ ixor .u8 x y ∧ ixor .u8 x y < 256 := by
  unfold ixor; rw [wu8m]; omega

theorem sh8 {n : Int} (h : 0 ≤ n ∧ n < 4294967296) : IntKind.u32.wrap (n.tdiv 256) = ishr .u32 n 8 := by
  have e : (2 : Int) ^ (min (8 : Int).toNat IntKind.u32.bits) = 256 := by decide
  rw [ishr, e, Int.fdiv_eq_ediv_of_nonneg _ (by omega), Int.tdiv_eq_ediv_of_nonneg h.1, wu32 (by omega) (by omega)]

/-- The table: each byte's step. -/
def eStep (x : Int) : Int := if (iand .u32 x 1) == 1 then ixor .u32 (ishr .u32 x 1) 2197175160 else ishr .u32 x 1
def ent (x : Int) : Int := eStep (eStep (eStep (eStep (eStep (eStep (eStep (eStep x)))))))
def tb : List Int := (List.range 256).map fun (i : Nat) => ent (i : Int)
theorem tb_len : tb.length = 256 := by simp [tb]

set_option maxRecDepth 100000 in
theorem tableP {β : Type} {K : List Int → Option β} : f124_1 20000 K = K tb := by kernel_rfl

theorem entNat {β : Type} {F : Nat} {K : Int → Option β} : ∀ (k : Nat) (v i : Int), f113_1_l3 F K k v i = (f113_1_l3 F some k v i).bind K
  | 0, v, i => rfl
  | k + 1, v, i => by
    rw [f113_1_l3, f113_1_l3]
    cases decide (i < 8) with
    | false => rfl
    | true =>
      cases (v.tmod 2 == 1) with
      | true => exact entNat k _ _
      | false => exact entNat k _ _

set_option maxRecDepth 100000 in
theorem entAll : ((List.range 256).all fun (i : Nat) => f113_1 20000 (i : Int) some == some (tb.getD i 0)) = true := by kernel_rfl

theorem entR {β : Type} {x : Int} (h : 0 ≤ x ∧ x < 256) {K : Int → Option β} : f113_1 20000 x K = K (tb.getD x.toNat 0) := by
  have h1 := List.all_eq_true.1 entAll x.toNat (List.mem_range.2 (by omega))
  rw [beq_iff_eq, show ((x.toNat : Nat) : Int) = x by omega, f113_1] at h1
  rw [f113_1, entNat, h1]; rfl

def crcS : Int → List Int → Int
  | n, [] => n
  | n, c :: r => crcS (ixor .u32 (ishr .u32 n 8) (tb.getD (ixor .u8 (IntKind.u8.wrap n) c).toNat 0)) r
def crc (b : List Int) : Int := ixor .u32 4294967295 (crcS (ixor .u32 4294967295 0) b)

theorem atL {α : Type} {l r : List α} {x d : α} {i : Nat} (hd : l.drop i = x :: r) : i < l.length ∧ l.getD (0 + (i : Int).toNat) d = x ∧ l.drop (i + 1) = r := by
  have h1 : i < l.length := by
    rcases Nat.lt_or_ge i l.length with h1 | h1
    · exact h1
    · rw [List.drop_eq_nil_of_le h1] at hd; cases hd
  rw [List.drop_eq_getElem_cons h1] at hd
  injection hd with h2 h3
  refine ⟨h1, ?_, h3⟩
  simp [h1, h2]

theorem nilL {α : Type} {l : List α} {i : Nat} (h : l.drop i = []) (hi : i ≤ l.length) : i = l.length := by
  have := congrArg List.length h
  simp at this; omega

theorem crcPl {β : Type} {F : Nat} {b : List Int} {K : Int → Option β} (hb : b.length ≤ 100000) : ∀ (r : List Int) (i k : Nat) (n : Int), b.drop i = r → i ≤ b.length → r.length < k →
    f112_1_l4 F ((b.length : Nat) : Int) b tb K k n (i : Int) = K (crcS n r)
  | [], i, 0, _, _, _, hk => by simp at hk
  | _ :: _, i, 0, _, _, _, hk => by simp at hk
  | [], i, k + 1, n, hd, hi, _ => by
    have := nilL hd hi
    rw [f112_1_l4, cf (by omega)]; rfl
  | c :: r, i, k + 1, n, hd, hi, hk => by
    obtain ⟨h1, h2, h3⟩ := atL (d := (0 : Int)) hd
    have hx := x8 (IntKind.u8.wrap n) c
    rw [f112_1_l4, ct (by omega), ct (by omega), ct (by omega), h2, ct hx, ct (by rw [tb_len]; omega), w64 (by omega) (by omega), crcS]
    exact crcPl hb r (i + 1) k _ h3 (by omega) (by simp at hk; omega)

theorem crcP {β : Type} {b : List Int} {K : Int → Option β} (hb : b.length ≤ 10000) : f80_1 20000 b K = K (crc b) := by
  rw [f80_1, f112_1, tableP]
  exact crcPl (K := fun x7 => K (ixor .u32 4294967295 x7)) (by omega) b 0 20000 _ rfl (by omega) (by omega)

theorem crcRl {β : Type} {b : List Int} {K : Int → Option β} (hb : b.length ≤ 100000) : ∀ (r : List Int) (i k : Nat) (n : Int), b.drop i = r → i ≤ b.length → r.length < k → 0 ≤ n ∧ n < 4294967296 →
    f83_1_l3 20000 b K k n (i : Int) = K (crcS n r)
  | [], i, 0, _, _, _, hk, _ => by simp at hk
  | _ :: _, i, 0, _, _, _, hk, _ => by simp at hk
  | [], i, k + 1, n, hd, hi, _, _ => by
    have := nilL hd hi
    rw [f83_1_l3, cf (by omega)]; rfl
  | c :: r, i, k + 1, n, hd, hi, hk, hn => by
    obtain ⟨h1, h2, h3⟩ := atL (d := (0 : Int)) hd
    have hx := x8 (IntKind.u8.wrap n) c
    rw [f83_1_l3, ct (by omega), ct (by omega), ct (by omega), h2, entR hx, w64 (by omega) (by omega), sh8 hn, crcS]
    exact crcRl hb r (i + 1) k _ h3 (by omega) (by simp at hk; omega) (x32 _ _)

theorem crcR {β : Type} {b : List Int} {K : Int → Option β} (hb : b.length ≤ 10000) : f42_1 20000 b K = K (crc b) := by
  rw [f42_1, f83_1]
  exact crcRl (K := fun x7 => K (ixor .u32 4294967295 x7)) (by omega) b 0 20000 _ rfl (by omega) (by omega) (x32 _ _)

/-! ### Numbers as bytes -/

def b4 (n : Int) : List Int := [IntKind.u8.wrap (ishr .u64 n 24), IntKind.u8.wrap (ishr .u64 n 16), IntKind.u8.wrap (ishr .u64 n 8), IntKind.u8.wrap (ishr .u64 n 0)]
theorem put4 {β : Type} {n : Int} {K : List Int → Option β} : f47_1 20000 4 n [] K = K (b4 n) := by kernel_rfl
theorem text4 {β : Type} {n : Int} {K : ByteArray → Option β} : f40_1 20000 4 n K = K (ofInts (b4 n)) := by kernel_rfl
theorem text1 {β : Type} {n : Int} {K : ByteArray → Option β} : f40_1 20000 1 n K = K (ofInts [IntKind.u8.wrap (ishr .u64 n 0)]) := by kernel_rfl

end Go.Proofs.YtillbabmlfjegaaDoor.X
end

section
namespace Go.Proofs.YtillbabmlfjegaaDoor.X
open Go Go.Proofs.YtillbabmlfjegaaDoor.Ev Go.Proofs
set_option linter.unusedVariables false
set_option linter.unusedSectionVars false
/-! pentimentoref05.Right -/
noncomputable def f45_1 {β : Type} (F : Nat) (a1 : ByteArray) (K0 : Bool → Option β) : Option β := K0 ((a1.size : Int) == 64)
variable [FZ]
def sh45_1 : Sh := ⟨[.lf (.str)], []⟩
noncomputable def S45_1 (F : Nat) (o : Summ) : Summ := mkS sh45_1 (fun d K => f45_1 F d.1.1 (fun (y0 : Bool) => K [.lf (.bool y0)] [])) o
noncomputable def code45 : Code := bodyOf Tryd.f45
theorem scopes45 : scopesOf code45 = [] := by kernel_rfl
theorem ranges45 : rangesOf code45 = [] := by kernel_rfl
theorem loops45 : loopsOf code45 = [] := by kernel_rfl
theorem enter45 : ∀ args w, (callFunc 45 args).run Tryd.prog w = .ok (.enter 45 args) w := enter_of (fn := Tryd.f45) (by kernel_rfl) (by kernel_rfl) (by kernel_rfl)
noncomputable def T45_1 (F : Nat) : FuncId → Option Summ := tab []
noncomputable def LT45_1 (F : Nat) : Nat → Option LoopS := ltab []
theorem E45_1g (F : Nat)    (d : sh45_1.den) (K : KF) : evBody Tryd.prog (tab []) (xw []) 6 0 (ltab []) code45 Tryd.f45.results.toList (encT sh45_1.vs d.1) (encH sh45_1.h d.2) K = (fun (a1 : ByteArray) (K0 : (Bool → Option Res)) => K0 ((a1.size : Int) == 64)) d.1.1 (fun (y0 : Bool) => K [.lf (.bool y0)] []) := by kernel_rfl
theorem E45_1 (F : Nat) (d : sh45_1.den) (K : KF) : evBody Tryd.prog (T45_1 F) (xw []) 6 0 (LT45_1 F) code45 Tryd.f45.results.toList (encT sh45_1.vs d.1) (encH sh45_1.h d.2) K = f45_1 F d.1.1 (fun (y0 : Bool) => K [.lf (.bool y0)] []) := Eq.mp (by kernel_rfl) (E45_1g F    d K)
theorem S45_1_ok (F : Nat) (o : Summ) (ho : SoundFn Tryd.prog 45 o) : SoundFn Tryd.prog 45 (S45_1 F o) :=
  soundFn_of (fn := Tryd.f45) (c := code45) rfl rfl (by kernel_rfl) tab_nil (by kernel_rfl) (by kernel_rfl) ho (by rw [loops45]; exact loopsOK_nil) (by rw [scopes45]; exact scopesOK_nil) (by rw [ranges45]; exact rangesOK_nil) (E45_1 F)
end Go.Proofs.YtillbabmlfjegaaDoor.X
end

section
namespace Go.Proofs.YtillbabmlfjegaaDoor.X
open Go Go.Proofs.YtillbabmlfjegaaDoor.Ev Go.Proofs
set_option linter.unusedVariables false
set_option linter.unusedSectionVars false
/-! pentimentoref08.Kind -/
noncomputable def f16_1_l8 {β : Type} (F : Nat) (v4 : ByteArray) (K0 : Option β) (K1 : Option β) : Nat → Int → Option β
  | 0, _ => none
  | k + 1, v5 => cond (decide (v5 < 60)) (cond (decide ((0 : Int) ≤ v5 ∧ v5 < (v4.size : Int))) (cond (((v4.data.getD v5.toNat 0).toNat : Int) != 0) (K0) (f16_1_l8 F v4 K0 K1 k (IntKind.i64.wrap (v5 + 1)))) none) (K1)
noncomputable def f16_1 {β : Type} (F : Nat) (a1 : ByteArray) (K0 : Int → Int → Option β) : Option β := f45_1 F a1 (fun x1 => cond (!x1) (K0 0 4) (cond (decide ((0 : Int) ≤ (0 : Int) ∧ (0 : Int) ≤ (60 : Int) ∧ (60 : Int) ≤ (a1.size : Int))) (cond (decide ((0 : Int) ≤ (60 : Int) ∧ (60 : Int) ≤ (a1.size : Int) ∧ (a1.size : Int) ≤ (a1.size : Int))) (f42_1 F (toInts (a1.extract 0 60)) (fun x2 => f40_1 F 4 (IntKind.u64.wrap x2) (fun x3 => cond (!(x3.toList == (a1.extract 60 ((a1.size : Int).toNat)).toList)) (K0 0 9) (cond (decide ((0 : Int) ≤ (0 : Int) ∧ (0 : Int) < (a1.size : Int))) (cond (decide (((a1.data.getD 0 0).toNat : Int) < 1)) (K0 0 6) (cond (decide ((0 : Int) ≤ (0 : Int) ∧ (0 : Int) < (a1.size : Int))) (cond (decide (((a1.data.getD 0 0).toNat : Int) > 8)) (K0 0 6) (cond (decide ((0 : Int) ≤ (1 : Int) ∧ (1 : Int) < (a1.size : Int))) (cond (decide (((a1.data.getD 1 0).toNat : Int) > 58)) (K0 0 6) (cond (decide ((0 : Int) ≤ (1 : Int) ∧ (1 : Int) < (a1.size : Int))) (f16_1_l8 F a1 (K0 0 6) (cond (decide ((0 : Int) ≤ (0 : Int) ∧ (0 : Int) < (a1.size : Int))) (K0 (IntKind.i64.wrap ((a1.data.getD 0 0).toNat : Int)) 0) none) F (IntKind.i64.wrap (2 + (IntKind.i64.wrap ((a1.data.getD 1 0).toNat : Int))))) none)) none)) none)) none)) ) ) none) none)) 
variable [FZ]
def sh16_1 : Sh := ⟨[.lf (.str)], []⟩
noncomputable def S16_1 (F : Nat) (o : Summ) : Summ := mkS sh16_1 (fun d K => f16_1 F d.1.1 (fun (y0 : Int) (y1 : Int) => K [.lf (.int .i64 y0), .lf (.int .i64 y1)] [])) o
noncomputable def code16 : Code := bodyOf Tryd.f16
noncomputable def b16_0 : Code := cB (cB (cR (cL (cR (cR (cR (cR (code16))))))))
theorem scopes16 : scopesOf code16 = [] := by kernel_rfl
theorem ranges16 : rangesOf code16 = [] := by kernel_rfl
theorem loops16 : loopsOf code16 = [b16_0] := by kernel_rfl
theorem enter16 : ∀ args w, (callFunc 16 args).run Tryd.prog w = .ok (.enter 16 args) w := enter_of (fn := Tryd.f16) (by kernel_rfl) (by kernel_rfl) (by kernel_rfl)
noncomputable def T16_1 (F : Nat) : FuncId → Option Summ := tab [(40, (S40_1 F noS)), (42, (S42_1 F noS)), (45, (S45_1 F noS))]
def sh16_1_l8 : Sh := ⟨[.lf (.str), .lf (.int .i64)], []⟩
noncomputable def G16_1_8 (F k : Nat) : LoopS := mkG sh16_1_l8 [0, 4] (outT [(.exit 0, [0]), (.ret, [2, 3])]) (fun d K => f16_1_l8 F d.1.1 (K .ret [.tv (.lf (.int .i64 0)), .tv (.lf (.int .i64 6))] []) (K (.exit 0) [.tv (.lf (.str d.1.1))] []) k d.1.2.1) []
noncomputable def LT16_1 (F : Nat) : Nat → Option LoopS := ltab [(8, G16_1_8 F F)]
theorem L16_1_l8g (F k : Nat) (c40_1 : Int → Int → (ByteArray → Option Res) → Option Res) (c42_1 : List Int → (Int → Option Res) → Option Res) (c45_1 : ByteArray → (Bool → Option Res) → Option Res)  (l8 : ByteArray → (Option Res) → (Option Res) → Nat → Int → Option Res) (X8 : LoopS) (d : sh16_1_l8.den) (K : KL) : (fun (v4 : ByteArray) (K0 : (Option Res)) (K1 : (Option Res)) (k : Nat) (v5 : Int) => cond (decide (v5 < 60)) (cond (decide ((0 : Int) ≤ v5 ∧ v5 < (v4.size : Int))) (cond (((v4.data.getD v5.toNat 0).toNat : Int) != 0) (K0) (l8 v4 K0 K1 k (IntKind.i64.wrap (v5 + 1)))) none) (K1)) d.1.1 (K .ret [.tv (.lf (.int .i64 0)), .tv (.lf (.int .i64 6))] []) (K (.exit 0) [.tv (.lf (.str d.1.1))] []) k d.1.2.1 = roundOf Tryd.prog (tab [(40, (mkS sh40_1 (fun d K => c40_1 d.1.1 d.1.2.1 (fun (y0 : ByteArray) => K [.lf (.str y0)] [])) noS)), (42, (mkS sh42_1 (fun d K => c42_1 d.2.1.2.1 (fun (y0 : Int) => K [.lf (.int .u32 y0)] [some ⟨d.2.1.1, [.seq (.int .u8) 0 d.2.1.2.1]⟩])) noS)), (45, (mkS sh45_1 (fun d K => c45_1 d.1.1 (fun (y0 : Bool) => K [.lf (.bool y0)] [])) noS))]) (xw []) 45 0 (ltab [(8, X8)]) (mkG sh16_1_l8 [0, 4] (outT [(.exit 0, [0]), (.ret, [2, 3])]) (fun d K => l8 d.1.1 (K .ret [.tv (.lf (.int .i64 0)), .tv (.lf (.int .i64 6))] []) (K (.exit 0) [.tv (.lf (.str d.1.1))] []) k d.1.2.1) []) b16_0 (encT sh16_1_l8.vs d.1) (encH sh16_1_l8.h d.2) K := by kernel_rfl
theorem L16_1_8 (F : Nat) : LoopOK Tryd.prog (T16_1 F) (xw []) 45 0 (LT16_1 F) (G16_1_8 F F) b16_0 :=
  loopOK_of (s := sh16_1_l8) (live := [0, 4]) (out := (outT [(.exit 0, [0]), (.ret, [2, 3])])) (mv := []) (fun k d K => f16_1_l8 F d.1.1 (K .ret [.tv (.lf (.int .i64 0)), .tv (.lf (.int .i64 6))] []) (K (.exit 0) [.tv (.lf (.str d.1.1))] []) k d.1.2.1) F (fun d K => by kernel_rfl)  (fun k d K => Eq.mp (by kernel_rfl) (L16_1_l8g F k (f40_1 F) (f42_1 F) (f45_1 F)  (f16_1_l8 F) (G16_1_8 F F) d K))
theorem E16_1g (F : Nat) (c40_1 : Int → Int → (ByteArray → Option Res) → Option Res) (c42_1 : List Int → (Int → Option Res) → Option Res) (c45_1 : ByteArray → (Bool → Option Res) → Option Res) (l8 : ByteArray → (Option Res) → (Option Res) → Nat → Int → Option Res)  (d : sh16_1.den) (K : KF) : evBody Tryd.prog (tab [(40, (mkS sh40_1 (fun d K => c40_1 d.1.1 d.1.2.1 (fun (y0 : ByteArray) => K [.lf (.str y0)] [])) noS)), (42, (mkS sh42_1 (fun d K => c42_1 d.2.1.2.1 (fun (y0 : Int) => K [.lf (.int .u32 y0)] [some ⟨d.2.1.1, [.seq (.int .u8) 0 d.2.1.2.1]⟩])) noS)), (45, (mkS sh45_1 (fun d K => c45_1 d.1.1 (fun (y0 : Bool) => K [.lf (.bool y0)] [])) noS))]) (xw []) 45 0 (ltab [(8, mkG sh16_1_l8 [0, 4] (outT [(.exit 0, [0]), (.ret, [2, 3])]) (fun d K => l8 d.1.1 (K .ret [.tv (.lf (.int .i64 0)), .tv (.lf (.int .i64 6))] []) (K (.exit 0) [.tv (.lf (.str d.1.1))] []) F d.1.2.1) [])]) code16 Tryd.f16.results.toList (encT sh16_1.vs d.1) (encH sh16_1.h d.2) K = (fun (a1 : ByteArray) (K0 : (Int → Int → Option Res)) => c45_1 a1 (fun x1 => cond (!x1) (K0 0 4) (cond (decide ((0 : Int) ≤ (0 : Int) ∧ (0 : Int) ≤ (60 : Int) ∧ (60 : Int) ≤ (a1.size : Int))) (cond (decide ((0 : Int) ≤ (60 : Int) ∧ (60 : Int) ≤ (a1.size : Int) ∧ (a1.size : Int) ≤ (a1.size : Int))) (c42_1 (toInts (a1.extract 0 60)) (fun x2 => c40_1 4 (IntKind.u64.wrap x2) (fun x3 => cond (!(x3.toList == (a1.extract 60 ((a1.size : Int).toNat)).toList)) (K0 0 9) (cond (decide ((0 : Int) ≤ (0 : Int) ∧ (0 : Int) < (a1.size : Int))) (cond (decide (((a1.data.getD 0 0).toNat : Int) < 1)) (K0 0 6) (cond (decide ((0 : Int) ≤ (0 : Int) ∧ (0 : Int) < (a1.size : Int))) (cond (decide (((a1.data.getD 0 0).toNat : Int) > 8)) (K0 0 6) (cond (decide ((0 : Int) ≤ (1 : Int) ∧ (1 : Int) < (a1.size : Int))) (cond (decide (((a1.data.getD 1 0).toNat : Int) > 58)) (K0 0 6) (cond (decide ((0 : Int) ≤ (1 : Int) ∧ (1 : Int) < (a1.size : Int))) (l8 a1 (K0 0 6) (cond (decide ((0 : Int) ≤ (0 : Int) ∧ (0 : Int) < (a1.size : Int))) (K0 (IntKind.i64.wrap ((a1.data.getD 0 0).toNat : Int)) 0) none) F (IntKind.i64.wrap (2 + (IntKind.i64.wrap ((a1.data.getD 1 0).toNat : Int))))) none)) none)) none)) none)) ) ) none) none)) ) d.1.1 (fun (y0 : Int) (y1 : Int) => K [.lf (.int .i64 y0), .lf (.int .i64 y1)] []) := by kernel_rfl
theorem E16_1 (F : Nat) (d : sh16_1.den) (K : KF) : evBody Tryd.prog (T16_1 F) (xw []) 45 0 (LT16_1 F) code16 Tryd.f16.results.toList (encT sh16_1.vs d.1) (encH sh16_1.h d.2) K = f16_1 F d.1.1 (fun (y0 : Int) (y1 : Int) => K [.lf (.int .i64 y0), .lf (.int .i64 y1)] []) := Eq.mp (by kernel_rfl) (E16_1g F (f40_1 F) (f42_1 F) (f45_1 F) (f16_1_l8 F)  d K)
theorem S16_1_ok (F : Nat) (o : Summ) (ho : SoundFn Tryd.prog 16 o) : SoundFn Tryd.prog 16 (S16_1 F o) :=
  soundFn_of (fn := Tryd.f16) (c := code16) rfl rfl (by kernel_rfl) (tab_cons (S40_1_ok F _ (noS_sound enter40)) (tab_cons (S42_1_ok F _ (noS_sound enter42)) (tab_cons (S45_1_ok F _ (noS_sound enter45)) tab_nil))) (by kernel_rfl) (by kernel_rfl) ho (by rw [loops16]; exact (loopsOK_cons (by kernel_rfl) (L16_1_8 F) loopsOK_nil)) (by rw [scopes16]; exact scopesOK_nil) (by rw [ranges16]; exact rangesOK_nil) (E16_1 F)
end Go.Proofs.YtillbabmlfjegaaDoor.X
end

section
namespace Go.Proofs.YtillbabmlfjegaaDoor.X
open Go Go.Proofs.YtillbabmlfjegaaDoor.Ev Go.Proofs
set_option linter.unusedVariables false
set_option linter.unusedSectionVars false
/-! pentimentoref08.Open -/
noncomputable def f14_1 {β : Type} (F : Nat) (a1 : Int) (a2 : ByteArray) (K0 : ByteArray → Int → Option β) : Option β := f16_1 F a2 (fun x1 x2 => cond (x2 != 0) (K0 ByteArray.empty x2) (cond (x1 != a1) (K0 ByteArray.empty 22) (cond (decide ((0 : Int) ≤ (1 : Int) ∧ (1 : Int) < (a2.size : Int))) (cond (decide ((0 : Int) ≤ (2 : Int) ∧ (2 : Int) ≤ IntKind.i64.wrap (2 + (IntKind.i64.wrap ((a2.data.getD 1 0).toNat : Int))) ∧ IntKind.i64.wrap (2 + (IntKind.i64.wrap ((a2.data.getD 1 0).toNat : Int))) ≤ (a2.size : Int))) (K0 (a2.extract 2 ((IntKind.i64.wrap (2 + (IntKind.i64.wrap ((a2.data.getD 1 0).toNat : Int)))).toNat)) 0) none) none))) 
variable [FZ]
def sh14_1 : Sh := ⟨[.lf (.int .i64), .lf (.str)], []⟩
noncomputable def S14_1 (F : Nat) (o : Summ) : Summ := mkS sh14_1 (fun d K => f14_1 F d.1.1 d.1.2.1 (fun (y0 : ByteArray) (y1 : Int) => K [.lf (.str y0), .lf (.int .i64 y1)] [])) o
noncomputable def code14 : Code := bodyOf Tryd.f14
theorem scopes14 : scopesOf code14 = [] := by kernel_rfl
theorem ranges14 : rangesOf code14 = [] := by kernel_rfl
theorem loops14 : loopsOf code14 = [] := by kernel_rfl
theorem enter14 : ∀ args w, (callFunc 14 args).run Tryd.prog w = .ok (.enter 14 args) w := enter_of (fn := Tryd.f14) (by kernel_rfl) (by kernel_rfl) (by kernel_rfl)
noncomputable def T14_1 (F : Nat) : FuncId → Option Summ := tab [(16, (S16_1 F noS))]
noncomputable def LT14_1 (F : Nat) : Nat → Option LoopS := ltab []
theorem E14_1g (F : Nat) (c16_1 : ByteArray → (Int → Int → Option Res) → Option Res)   (d : sh14_1.den) (K : KF) : evBody Tryd.prog (tab [(16, (mkS sh16_1 (fun d K => c16_1 d.1.1 (fun (y0 : Int) (y1 : Int) => K [.lf (.int .i64 y0), .lf (.int .i64 y1)] [])) noS))]) (xw []) 25 0 (ltab []) code14 Tryd.f14.results.toList (encT sh14_1.vs d.1) (encH sh14_1.h d.2) K = (fun (a1 : Int) (a2 : ByteArray) (K0 : (ByteArray → Int → Option Res)) => c16_1 a2 (fun x1 x2 => cond (x2 != 0) (K0 ByteArray.empty x2) (cond (x1 != a1) (K0 ByteArray.empty 22) (cond (decide ((0 : Int) ≤ (1 : Int) ∧ (1 : Int) < (a2.size : Int))) (cond (decide ((0 : Int) ≤ (2 : Int) ∧ (2 : Int) ≤ IntKind.i64.wrap (2 + (IntKind.i64.wrap ((a2.data.getD 1 0).toNat : Int))) ∧ IntKind.i64.wrap (2 + (IntKind.i64.wrap ((a2.data.getD 1 0).toNat : Int))) ≤ (a2.size : Int))) (K0 (a2.extract 2 ((IntKind.i64.wrap (2 + (IntKind.i64.wrap ((a2.data.getD 1 0).toNat : Int)))).toNat)) 0) none) none))) ) d.1.1 d.1.2.1 (fun (y0 : ByteArray) (y1 : Int) => K [.lf (.str y0), .lf (.int .i64 y1)] []) := by kernel_rfl
theorem E14_1 (F : Nat) (d : sh14_1.den) (K : KF) : evBody Tryd.prog (T14_1 F) (xw []) 25 0 (LT14_1 F) code14 Tryd.f14.results.toList (encT sh14_1.vs d.1) (encH sh14_1.h d.2) K = f14_1 F d.1.1 d.1.2.1 (fun (y0 : ByteArray) (y1 : Int) => K [.lf (.str y0), .lf (.int .i64 y1)] []) := Eq.mp (by kernel_rfl) (E14_1g F (f16_1 F)   d K)
theorem S14_1_ok (F : Nat) (o : Summ) (ho : SoundFn Tryd.prog 14 o) : SoundFn Tryd.prog 14 (S14_1 F o) :=
  soundFn_of (fn := Tryd.f14) (c := code14) rfl rfl (by kernel_rfl) (tab_cons (S16_1_ok F _ (noS_sound enter16)) tab_nil) (by kernel_rfl) (by kernel_rfl) ho (by rw [loops14]; exact loopsOK_nil) (by rw [scopes14]; exact scopesOK_nil) (by rw [ranges14]; exact rangesOK_nil) (E14_1 F)
end Go.Proofs.YtillbabmlfjegaaDoor.X
end

section
namespace Go.Proofs.YtillbabmlfjegaaDoor.X
open Go Go.Proofs.YtillbabmlfjegaaDoor.Ev Go.Proofs
set_option linter.unusedVariables false
set_option linter.unusedSectionVars false
/-! pentimentoref05.Fill -/
noncomputable def f82_1_l3 {β : Type} (F : Nat) (v1 : Int) (K0 : List Int → Option β) : Nat → Int → List Int → Option β
  | 0, _, _ => none
  | k + 1, v2, v3 => cond (decide (v2 < 64)) (cond (decide ((v3.length + 1) * 1 ≤ 70368744177664)) (f82_1_l3 F v1 K0 k (IntKind.i64.wrap (v2 + 1)) (v3 ++ [v1])) none) (K0 v3)
noncomputable def f82_1 {β : Type} (F : Nat) (a1 : Int) (K0 : ByteArray → Option β) : Option β := f82_1_l3 F a1 (fun x4 => K0 (ofInts x4)) F 0 []
variable [FZ]
def sh82_1 : Sh := ⟨[.lf (.int .u8)], []⟩
noncomputable def S82_1 (F : Nat) (o : Summ) : Summ := mkS sh82_1 (fun d K => f82_1 F d.1.1 (fun (y0 : ByteArray) => K [.lf (.str y0)] [])) o
noncomputable def code82 : Code := bodyOf Tryd.f82
noncomputable def b82_0 : Code := cB (cB (cR (cL (cR (cR (code82))))))
theorem scopes82 : scopesOf code82 = [] := by kernel_rfl
theorem ranges82 : rangesOf code82 = [] := by kernel_rfl
theorem loops82 : loopsOf code82 = [b82_0] := by kernel_rfl
theorem enter82 : ∀ args w, (callFunc 82 args).run Tryd.prog w = .ok (.enter 82 args) w := enter_of (fn := Tryd.f82) (by kernel_rfl) (by kernel_rfl) (by kernel_rfl)
noncomputable def T82_1 (F : Nat) : FuncId → Option Summ := tab []
def sh82_1_l3 : Sh := ⟨[.lf (.int .u8), .lf (.full 0), .lf (.int .i64)], [some ⟨some false, [.seq (.int .u8) 0]⟩]⟩
noncomputable def G82_1_3 (F k : Nat) : LoopS := mkG sh82_1_l3 [0, 3, 4] (outT [(.exit 0, [3])]) (fun d K => f82_1_l3 F d.1.1 (fun (y0 : List Int) => K (.exit 0) [.tv (.lf (.full 0))] [some ⟨false, [.seq (.int .u8) 0 y0]⟩]) k d.1.2.2.1 d.2.1.2.1) []
noncomputable def LT82_1 (F : Nat) : Nat → Option LoopS := ltab [(3, G82_1_3 F F)]
theorem L82_1_l3g (F k : Nat)   (l3 : Int → (List Int → Option Res) → Nat → Int → List Int → Option Res) (X3 : LoopS) (d : sh82_1_l3.den) (K : KL) : (fun (v1 : Int) (K0 : (List Int → Option Res)) (k : Nat) (v2 : Int) (v3 : List Int) => cond (decide (v2 < 64)) (cond (decide ((v3.length + 1) * 1 ≤ 70368744177664)) (l3 v1 K0 k (IntKind.i64.wrap (v2 + 1)) (v3 ++ [v1])) none) (K0 v3)) d.1.1 (fun (y0 : List Int) => K (.exit 0) [.tv (.lf (.full 0))] [some ⟨false, [.seq (.int .u8) 0 y0]⟩]) k d.1.2.2.1 d.2.1.2.1 = roundOf Tryd.prog (tab []) (xw []) 15 0 (ltab [(3, X3)]) (mkG sh82_1_l3 [0, 3, 4] (outT [(.exit 0, [3])]) (fun d K => l3 d.1.1 (fun (y0 : List Int) => K (.exit 0) [.tv (.lf (.full 0))] [some ⟨false, [.seq (.int .u8) 0 y0]⟩]) k d.1.2.2.1 d.2.1.2.1) []) b82_0 (encT sh82_1_l3.vs d.1) (encH sh82_1_l3.h d.2) K := by kernel_rfl
theorem L82_1_3 (F : Nat) : LoopOK Tryd.prog (T82_1 F) (xw []) 15 0 (LT82_1 F) (G82_1_3 F F) b82_0 :=
  loopOK_of (s := sh82_1_l3) (live := [0, 3, 4]) (out := (outT [(.exit 0, [3])])) (mv := []) (fun k d K => f82_1_l3 F d.1.1 (fun (y0 : List Int) => K (.exit 0) [.tv (.lf (.full 0))] [some ⟨false, [.seq (.int .u8) 0 y0]⟩]) k d.1.2.2.1 d.2.1.2.1) F (fun d K => by kernel_rfl)  (fun k d K => Eq.mp (by kernel_rfl) (L82_1_l3g F k   (f82_1_l3 F) (G82_1_3 F F) d K))
theorem E82_1g (F : Nat)  (l3 : Int → (List Int → Option Res) → Nat → Int → List Int → Option Res)  (d : sh82_1.den) (K : KF) : evBody Tryd.prog (tab []) (xw []) 15 0 (ltab [(3, mkG sh82_1_l3 [0, 3, 4] (outT [(.exit 0, [3])]) (fun d K => l3 d.1.1 (fun (y0 : List Int) => K (.exit 0) [.tv (.lf (.full 0))] [some ⟨false, [.seq (.int .u8) 0 y0]⟩]) F d.1.2.2.1 d.2.1.2.1) [])]) code82 Tryd.f82.results.toList (encT sh82_1.vs d.1) (encH sh82_1.h d.2) K = (fun (a1 : Int) (K0 : (ByteArray → Option Res)) => l3 a1 (fun x4 => K0 (ofInts x4)) F 0 []) d.1.1 (fun (y0 : ByteArray) => K [.lf (.str y0)] []) := by kernel_rfl
theorem E82_1 (F : Nat) (d : sh82_1.den) (K : KF) : evBody Tryd.prog (T82_1 F) (xw []) 15 0 (LT82_1 F) code82 Tryd.f82.results.toList (encT sh82_1.vs d.1) (encH sh82_1.h d.2) K = f82_1 F d.1.1 (fun (y0 : ByteArray) => K [.lf (.str y0)] []) := Eq.mp (by kernel_rfl) (E82_1g F  (f82_1_l3 F)  d K)
theorem S82_1_ok (F : Nat) (o : Summ) (ho : SoundFn Tryd.prog 82 o) : SoundFn Tryd.prog 82 (S82_1 F o) :=
  soundFn_of (fn := Tryd.f82) (c := code82) rfl rfl (by kernel_rfl) tab_nil (by kernel_rfl) (by kernel_rfl) ho (by rw [loops82]; exact (loopsOK_cons (by kernel_rfl) (L82_1_3 F) loopsOK_nil)) (by rw [scopes82]; exact scopesOK_nil) (by rw [ranges82]; exact rangesOK_nil) (E82_1 F)
end Go.Proofs.YtillbabmlfjegaaDoor.X
end

section
namespace Go.Proofs.YtillbabmlfjegaaDoor.X
open Go Go.Proofs.YtillbabmlfjegaaDoor.Ev Go.Proofs
set_option linter.unusedVariables false
set_option linter.unusedSectionVars false
/-! pentimentoref05.Zero -/
noncomputable def f41_1 {β : Type} (F : Nat)  (K0 : ByteArray → Option β) : Option β := f82_1 F 0 (fun x1 => K0 x1) 
variable [FZ]
def sh41_1 : Sh := ⟨[], []⟩
noncomputable def S41_1 (F : Nat) (o : Summ) : Summ := mkS sh41_1 (fun d K => f41_1 F (fun (y0 : ByteArray) => K [.lf (.str y0)] [])) o
noncomputable def code41 : Code := bodyOf Tryd.f41
theorem scopes41 : scopesOf code41 = [] := by kernel_rfl
theorem ranges41 : rangesOf code41 = [] := by kernel_rfl
theorem loops41 : loopsOf code41 = [] := by kernel_rfl
theorem enter41 : ∀ args w, (callFunc 41 args).run Tryd.prog w = .ok (.enter 41 args) w := enter_of (fn := Tryd.f41) (by kernel_rfl) (by kernel_rfl) (by kernel_rfl)
noncomputable def T41_1 (F : Nat) : FuncId → Option Summ := tab [(82, (S82_1 F noS))]
noncomputable def LT41_1 (F : Nat) : Nat → Option LoopS := ltab []
theorem E41_1g (F : Nat) (c82_1 : Int → (ByteArray → Option Res) → Option Res)   (d : sh41_1.den) (K : KF) : evBody Tryd.prog (tab [(82, (mkS sh82_1 (fun d K => c82_1 d.1.1 (fun (y0 : ByteArray) => K [.lf (.str y0)] [])) noS))]) (xw []) 2 0 (ltab []) code41 Tryd.f41.results.toList (encT sh41_1.vs d.1) (encH sh41_1.h d.2) K = (fun (K0 : (ByteArray → Option Res)) => c82_1 0 (fun x1 => K0 x1) ) (fun (y0 : ByteArray) => K [.lf (.str y0)] []) := by kernel_rfl
theorem E41_1 (F : Nat) (d : sh41_1.den) (K : KF) : evBody Tryd.prog (T41_1 F) (xw []) 2 0 (LT41_1 F) code41 Tryd.f41.results.toList (encT sh41_1.vs d.1) (encH sh41_1.h d.2) K = f41_1 F (fun (y0 : ByteArray) => K [.lf (.str y0)] []) := Eq.mp (by kernel_rfl) (E41_1g F (f82_1 F)   d K)
theorem S41_1_ok (F : Nat) (o : Summ) (ho : SoundFn Tryd.prog 41 o) : SoundFn Tryd.prog 41 (S41_1 F o) :=
  soundFn_of (fn := Tryd.f41) (c := code41) rfl rfl (by kernel_rfl) (tab_cons (S82_1_ok F _ (noS_sound enter82)) tab_nil) (by kernel_rfl) (by kernel_rfl) ho (by rw [loops41]; exact loopsOK_nil) (by rw [scopes41]; exact scopesOK_nil) (by rw [ranges41]; exact rangesOK_nil) (E41_1 F)
end Go.Proofs.YtillbabmlfjegaaDoor.X
end

section
namespace Go.Proofs.YtillbabmlfjegaaDoor.X
open Go Go.Proofs.YtillbabmlfjegaaDoor.Ev Go.Proofs
set_option linter.unusedVariables false
set_option linter.unusedSectionVars false
/-! pentimentoref08.Make -/
noncomputable def f11_1 {β : Type} (F : Nat) (a1 : Int) (a2 : ByteArray) (K0 : ByteArray → Int → Option β) : Option β := cond (decide (a1 < 1)) (K0 ByteArray.empty 22) (cond (decide (a1 > 8)) (K0 ByteArray.empty 22) (cond (decide ((a2.size : Int) > 58)) (K0 ByteArray.empty 8) (f40_1 F 1 (IntKind.u64.wrap a1) (fun x1 => f40_1 F 1 (IntKind.u64.wrap (a2.size : Int)) (fun x2 => cond (decide (x1.size + x2.size ≤ 4611686018427387904)) (cond (decide ((x1 ++ x2).size + a2.size ≤ 4611686018427387904)) (f41_1 F  (fun x3 => cond (decide ((0 : Int) ≤ (((x1 ++ x2) ++ a2).size : Int) ∧ (((x1 ++ x2) ++ a2).size : Int) ≤ (60 : Int) ∧ (60 : Int) ≤ (x3.size : Int))) (cond (decide (((x1 ++ x2) ++ a2).size + (x3.extract ((((x1 ++ x2) ++ a2).size : Int).toNat) 60).size ≤ 4611686018427387904)) (f42_1 F (toInts (((x1 ++ x2) ++ a2) ++ (x3.extract ((((x1 ++ x2) ++ a2).size : Int).toNat) 60))) (fun x4 => f40_1 F 4 (IntKind.u64.wrap x4) (fun x5 => cond (decide ((((x1 ++ x2) ++ a2) ++ (x3.extract ((((x1 ++ x2) ++ a2).size : Int).toNat) 60)).size + x5.size ≤ 4611686018427387904)) (K0 ((((x1 ++ x2) ++ a2) ++ (x3.extract ((((x1 ++ x2) ++ a2).size : Int).toNat) 60)) ++ x5) 0) none) ) ) none) none) ) none) none) ) )))
variable [FZ]
def sh11_1 : Sh := ⟨[.lf (.int .i64), .lf (.str)], []⟩
noncomputable def S11_1 (F : Nat) (o : Summ) : Summ := mkS sh11_1 (fun d K => f11_1 F d.1.1 d.1.2.1 (fun (y0 : ByteArray) (y1 : Int) => K [.lf (.str y0), .lf (.int .i64 y1)] [])) o
noncomputable def code11 : Code := bodyOf Tryd.f11
theorem scopes11 : scopesOf code11 = [] := by kernel_rfl
theorem ranges11 : rangesOf code11 = [] := by kernel_rfl
theorem loops11 : loopsOf code11 = [] := by kernel_rfl
theorem enter11 : ∀ args w, (callFunc 11 args).run Tryd.prog w = .ok (.enter 11 args) w := enter_of (fn := Tryd.f11) (by kernel_rfl) (by kernel_rfl) (by kernel_rfl)
noncomputable def T11_1 (F : Nat) : FuncId → Option Summ := tab [(40, (S40_1 F noS)), (41, (S41_1 F noS)), (42, (S42_1 F noS))]
noncomputable def LT11_1 (F : Nat) : Nat → Option LoopS := ltab []
theorem E11_1g (F : Nat) (c40_1 : Int → Int → (ByteArray → Option Res) → Option Res) (c41_1 : (ByteArray → Option Res) → Option Res) (c42_1 : List Int → (Int → Option Res) → Option Res)   (d : sh11_1.den) (K : KF) : evBody Tryd.prog (tab [(40, (mkS sh40_1 (fun d K => c40_1 d.1.1 d.1.2.1 (fun (y0 : ByteArray) => K [.lf (.str y0)] [])) noS)), (41, (mkS sh41_1 (fun d K => c41_1 (fun (y0 : ByteArray) => K [.lf (.str y0)] [])) noS)), (42, (mkS sh42_1 (fun d K => c42_1 d.2.1.2.1 (fun (y0 : Int) => K [.lf (.int .u32 y0)] [some ⟨d.2.1.1, [.seq (.int .u8) 0 d.2.1.2.1]⟩])) noS))]) (xw []) 41 0 (ltab []) code11 Tryd.f11.results.toList (encT sh11_1.vs d.1) (encH sh11_1.h d.2) K = (fun (a1 : Int) (a2 : ByteArray) (K0 : (ByteArray → Int → Option Res)) => cond (decide (a1 < 1)) (K0 ByteArray.empty 22) (cond (decide (a1 > 8)) (K0 ByteArray.empty 22) (cond (decide ((a2.size : Int) > 58)) (K0 ByteArray.empty 8) (c40_1 1 (IntKind.u64.wrap a1) (fun x1 => c40_1 1 (IntKind.u64.wrap (a2.size : Int)) (fun x2 => cond (decide (x1.size + x2.size ≤ 4611686018427387904)) (cond (decide ((x1 ++ x2).size + a2.size ≤ 4611686018427387904)) (c41_1  (fun x3 => cond (decide ((0 : Int) ≤ (((x1 ++ x2) ++ a2).size : Int) ∧ (((x1 ++ x2) ++ a2).size : Int) ≤ (60 : Int) ∧ (60 : Int) ≤ (x3.size : Int))) (cond (decide (((x1 ++ x2) ++ a2).size + (x3.extract ((((x1 ++ x2) ++ a2).size : Int).toNat) 60).size ≤ 4611686018427387904)) (c42_1 (toInts (((x1 ++ x2) ++ a2) ++ (x3.extract ((((x1 ++ x2) ++ a2).size : Int).toNat) 60))) (fun x4 => c40_1 4 (IntKind.u64.wrap x4) (fun x5 => cond (decide ((((x1 ++ x2) ++ a2) ++ (x3.extract ((((x1 ++ x2) ++ a2).size : Int).toNat) 60)).size + x5.size ≤ 4611686018427387904)) (K0 ((((x1 ++ x2) ++ a2) ++ (x3.extract ((((x1 ++ x2) ++ a2).size : Int).toNat) 60)) ++ x5) 0) none) ) ) none) none) ) none) none) ) )))) d.1.1 d.1.2.1 (fun (y0 : ByteArray) (y1 : Int) => K [.lf (.str y0), .lf (.int .i64 y1)] []) := by kernel_rfl
theorem E11_1 (F : Nat) (d : sh11_1.den) (K : KF) : evBody Tryd.prog (T11_1 F) (xw []) 41 0 (LT11_1 F) code11 Tryd.f11.results.toList (encT sh11_1.vs d.1) (encH sh11_1.h d.2) K = f11_1 F d.1.1 d.1.2.1 (fun (y0 : ByteArray) (y1 : Int) => K [.lf (.str y0), .lf (.int .i64 y1)] []) := Eq.mp (by kernel_rfl) (E11_1g F (f40_1 F) (f41_1 F) (f42_1 F)   d K)
theorem S11_1_ok (F : Nat) (o : Summ) (ho : SoundFn Tryd.prog 11 o) : SoundFn Tryd.prog 11 (S11_1 F o) :=
  soundFn_of (fn := Tryd.f11) (c := code11) rfl rfl (by kernel_rfl) (tab_cons (S40_1_ok F _ (noS_sound enter40)) (tab_cons (S41_1_ok F _ (noS_sound enter41)) (tab_cons (S42_1_ok F _ (noS_sound enter42)) tab_nil))) (by kernel_rfl) (by kernel_rfl) ho (by rw [loops11]; exact loopsOK_nil) (by rw [scopes11]; exact scopesOK_nil) (by rw [ranges11]; exact rangesOK_nil) (E11_1 F)
end Go.Proofs.YtillbabmlfjegaaDoor.X
end

section
/- Records: made, opened; the code's and the document's, in one form. -/
namespace Go.Proofs.YtillbabmlfjegaaDoor.X
open Go Go.Proofs.YtillbabmlfjegaaDoor.Ev
set_option linter.unusedSectionVars false
variable [FZ]
set_option linter.unusedVariables false
set_option linter.unusedSimpArgs false

/-! ### Bytes -/

abbrev D (s : ByteArray) : List UInt8 := s.data.toList

theorem extB {s t : ByteArray} (h : D s = D t) : s = t := by
  cases s; cases t
  congr
  exact Array.toList_inj.1 h

theorem D_app (s t : ByteArray) : D (s ++ t) = D s ++ D t := by simp [D]
theorem D_ext (s : ByteArray) (a b : Nat) : D (s.extract a b) = ((D s).drop a).take (b - a) := by
  simp only [D, ByteArray.data_extract, Array.toList_extract, List.extract_eq_take_drop]
theorem D_size (s : ByteArray) : s.size = (D s).length := Array.length_toList.symm
theorem D_ofInts (l : List Int) : D (ofInts l) = l.map fun n => UInt8.ofNat n.toNat := by simp [D, ofInts]
theorem toInts_D (s : ByteArray) : toInts s = (D s).map fun c => (c.toNat : Int) := rfl

theorem loopB (s : ByteArray) : ∀ (m i : Nat) (r : List UInt8), i + m = s.size → ByteArray.toList.loop s i r = r.reverse ++ (D s).drop i
  | 0, i, r, h => by
    rw [ByteArray.toList.loop, if_neg (by omega), List.drop_eq_nil_of_le (by rw [← D_size]; omega), List.append_nil]
  | m + 1, i, r, h => by
    have h1 : i < (D s).length := by rw [← D_size]; omega
    rw [ByteArray.toList.loop, if_pos (by omega), loopB s m (i + 1) _ (by omega), List.drop_eq_getElem_cons h1]
    have : s.get! i = (D s)[i] := by
      have h2 : i < s.data.size := by have := h1; simpa [D] using this
      simp only [ByteArray.get!, D, Array.getElem_toList]
      exact getElem!_pos s.data i h2
    rw [this]; simp

theorem toList_D (s : ByteArray) : s.toList = D s := by
  rw [ByteArray.toList, loopB s s.size 0 [] (by omega)]; rfl

theorem beqB {s t : ByteArray} : (s.toList == t.toList) = decide (s = t) := by
  rw [toList_D, toList_D, Bool.eq_iff_iff]
  simp only [beq_iff_eq, decide_eq_true_eq]
  exact ⟨extB, fun h => by rw [h]⟩

/-! ### A record -/

def front (k : Int) (b : ByteArray) : ByteArray := ⟨(UInt8.ofNat k.toNat :: UInt8.ofNat b.size :: (D b ++ List.replicate (58 - b.size) 0)).toArray⟩
def mkB (k : Int) (b : ByteArray) : ByteArray := front k b ++ ofInts (b4 (crc (toInts (front k b))))
def mkR (k : Int) (b : ByteArray) : ByteArray × Int := if k < 1 ∨ k > 8 then (ByteArray.empty, 22) else if b.size > 58 then (ByteArray.empty, 8) else (mkB k b, 0)

theorem front_D (k : Int) (b : ByteArray) : D (front k b) = UInt8.ofNat k.toNat :: UInt8.ofNat b.size :: (D b ++ List.replicate (58 - b.size) 0) := by simp [D, front]
theorem front_size {k : Int} {b : ByteArray} (h : b.size ≤ 58) : (front k b).size = 60 := by
  rw [D_size, front_D]; simp [← D_size]
  have := D_size b
  simp [D] at this
  omega

theorem crc_r (b : List Int) : 0 ≤ crc b ∧ crc b < 4294967296 := x32 _ _

theorem sumP {β : Type} {s : ByteArray} (h : 60 ≤ s.size) {K : ByteArray → Option β} : f39_1 20000 s K = K (ofInts (b4 (crc (toInts (s.extract 0 60))))) := by
  have hc := crc_r (toInts (s.extract 0 60))
  have hl : (toInts (s.extract 0 60)).length ≤ 60 := by
    rw [toInts_D, D_ext]; simp; omega
  rw [f39_1, ct (by omega), crcP (by omega), wu64 (by omega) (by omega), put4]

theorem ext_all {s : ByteArray} {n : Nat} (h : s.size = n) : s.extract 0 n = s := by
  apply extB
  rw [D_ext, List.drop_zero, List.take_of_length_le (by rw [← D_size]; omega)]

theorem rep0 (n : Nat) : D (rep ⟨#[0]⟩ n) = List.replicate n 0 := by
  show D ⟨(Lib.repeatL [0] n).toArray⟩ = _
  have : ∀ n, Lib.repeatL [(0 : UInt8)] n = List.replicate n 0 := fun n => by
    induction n with
    | zero => rfl
    | succ n ih => simp [Lib.repeatL, ih, List.replicate_succ]
  simp [D, this]

theorem u8n {n : Int} (h : 0 ≤ n ∧ n < 256) : IntKind.u8.wrap n = n := wu8 h.1 h.2

theorem shr0 {n : Int} (h : 0 ≤ n) : ishr .u64 n 0 = n := by
  have e : (2 : Int) ^ (min (0 : Int).toNat IntKind.u64.bits) = 1 := by decide
  rw [ishr, e, Int.fdiv_eq_ediv_of_nonneg _ (by omega), Int.ediv_one]

theorem makeP {β : Type} {k : Int} {b : ByteArray} (hb : b.size ≤ maxLen) {K : ByteArray → Int → Option β} : f10_1 20000 k b K = K (mkR k b).1 (mkR k b).2 := by
  rw [f10_1, mkR]
  by_cases h1 : k < 1
  · rw [ct h1, if_pos (.inl h1)]
  · by_cases h2 : k > 8
    · rw [cf h1, ct h2, if_pos (.inr h2)]
    · rw [cf h1, cf h2, if_neg (by omega)]
      by_cases h3 : b.size > 58
      · rw [ct (by omega), if_pos h3]
      · have hs2 : (ofInts [IntKind.u8.wrap k, IntKind.u8.wrap (b.size : Int)]).size = 2 := by rw [D_size, D_ofInts]; rfl
        have hs : (ofInts [IntKind.u8.wrap k, IntKind.u8.wrap (b.size : Int)] ++ b).size = 2 + b.size := by rw [D_size, D_app, List.length_append, ← D_size, ← D_size, hs2]
        rw [cf (by omega), if_neg h3, ct (by omega), f38_1, hs, w64 (by omega) (by omega), ct ⟨by omega, by omega, by
          have : (⟨#[0]⟩ : ByteArray).size = 1 := rfl
          rw [this]; omega⟩]
        have hf : ofInts [IntKind.u8.wrap k, IntKind.u8.wrap (b.size : Int)] ++ b ++ rep ⟨#[0]⟩ (60 - ((2 + b.size : Nat) : Int)).toNat = front k b := by
          apply extB
          rw [D_app, D_app, rep0, D_ofInts, front_D, u8n (by omega), u8n (by omega), show (60 - ((2 + b.size : Nat) : Int)).toNat = 58 - b.size by omega]
          simp
        have hfs := front_size (k := k) (b := b) (by omega)
        have hr : (rep ⟨#[0]⟩ (60 - ((2 + b.size : Nat) : Int)).toNat).size ≤ 60 := by rw [D_size, rep0]; simp; omega
        rw [ct (by omega), hf, sumP (by omega), ext_all hfs, ct (by
          rw [hfs, D_size, D_ofInts]; simp [b4])]
        rfl

noncomputable def Z64 : ByteArray := ofInts (List.replicate 64 0)
theorem zero64 {β : Type} {K : ByteArray → Option β} : f41_1 20000 K = K Z64 := by kernel_rfl
theorem Z64_D : D Z64 = List.replicate 64 0 := by rw [Z64, D_ofInts]; rfl

theorem makeR {β : Type} {k : Int} {b : ByteArray} (hb : b.size ≤ maxLen) {K : ByteArray → Int → Option β} : f11_1 20000 k b K = K (mkR k b).1 (mkR k b).2 := by
  rw [f11_1, mkR]
  by_cases h1 : k < 1
  · rw [ct h1, if_pos (.inl h1)]
  · by_cases h2 : k > 8
    · rw [cf h1, ct h2, if_pos (.inr h2)]
    · rw [cf h1, cf h2, if_neg (by omega)]
      by_cases h3 : b.size > 58
      · rw [ct (by omega), if_pos h3]
      · have hz : Z64.size = 64 := by rw [D_size, Z64_D]; simp
        have hs2 : (ofInts [k] ++ ofInts [(b.size : Int)]).size = 2 := by rw [D_size, D_app, D_ofInts, D_ofInts]; rfl
        have hs : (ofInts [k] ++ ofInts [(b.size : Int)] ++ b).size = 2 + b.size := by rw [D_size, D_app, List.length_append, ← D_size, ← D_size, hs2]
        rw [cf (by omega), if_neg h3, text1, text1, wu64 (by omega) (by omega), wu64 (by omega) (by omega), shr0 (by omega), shr0 (by omega), u8n (by omega), u8n (by omega)]
        have h11 : ∀ n : Int, (ofInts [n]).size = 1 := fun n => by rw [D_size, D_ofInts]; rfl
        rw [ct (by rw [h11, h11]; omega), ct (by rw [hs2]; omega), zero64, hs, ct (by omega)]
        have hf : ofInts [k] ++ ofInts [(b.size : Int)] ++ b ++ Z64.extract ((2 + b.size : Nat) : Int).toNat 60 = front k b := by
          apply extB
          rw [D_app, D_app, D_app, D_ext, D_ofInts, D_ofInts, front_D, Z64_D, show ((2 + b.size : Nat) : Int).toNat = 2 + b.size by omega, List.drop_replicate, List.take_replicate, show min (60 - (2 + b.size)) (64 - (2 + b.size)) = 58 - b.size by omega]
          simp
        have hfs := front_size (k := k) (b := b) (by omega)
        have hext : (Z64.extract ((2 + b.size : Nat) : Int).toNat 60).size ≤ 60 := by rw [D_size, D_ext]; simp; omega
        have hc := crc_r (toInts (front k b))
        have hl : (toInts (front k b)).length = 60 := by rw [toInts_D, List.length_map, ← D_size]; exact hfs
        rw [ct (by omega), hf, crcR (by omega), wu64 (by omega) (by omega), text4, ct (by
          rw [hfs, D_size, D_ofInts]; simp [b4])]
        rfl

/-! ### What a sector is -/

def byt (s : ByteArray) (i : Nat) : Int := ((s.data.getD i 0).toNat : Int)
theorem byt_r (s : ByteArray) (i : Nat) : 0 ≤ byt s i ∧ byt s i < 256 := by
  have := (s.data.getD i 0).toNat_lt
  unfold byt; omega
def sm (s : ByteArray) : ByteArray := ofInts (b4 (crc (toInts (s.extract 0 60))))
def zer (s : ByteArray) (n : Nat) : Bool := (((D s).drop n).take (60 - n)).all (· == 0)
def kd (s : ByteArray) : Int × Int := if s.size ≠ 64 then (0, 4) else if ((sm s).toList == (s.extract 60 64).toList) = false then (0, 9) else
  if byt s 0 < 1 ∨ byt s 0 > 8 ∨ byt s 1 > 58 ∨ zer s (2 + (byt s 1).toNat) = false then (0, 6) else (byt s 0, 0)

theorem dropW_nil {p : UInt8 → Bool} : ∀ l : List UInt8, l.dropWhile p = [] ↔ l.all p = true
  | [] => by simp
  | x :: r => by
    rw [List.dropWhile_cons, List.all_cons]
    cases h : p x with
    | true => simpa using dropW_nil r
    | false => simp

theorem dropW_head {p : UInt8 → Bool} : ∀ (l : List UInt8) {y : UInt8} {r : List UInt8}, l.dropWhile p = y :: r → p y = false
  | [], y, r, h => by cases h
  | x :: l, y, r, h => by
    rw [List.dropWhile_cons] at h
    cases hx : p x with
    | true => rw [hx, if_pos rfl] at h; exact dropW_head l h
    | false => rw [hx, if_neg (by simp)] at h; injection h with h1 h2; rw [← h1]; exact hx

theorem trim_nil (l : List UInt8) : Lib.trimS l [0] = [] ↔ l.all (· == 0) = true := by
  have hp : ∀ x : UInt8, [(0 : UInt8)].contains x = (x == 0) := fun x => by rw [Bool.eq_iff_iff]; simp
  rw [Lib.trimS, Lib.trimLeftS, Lib.trimRightS, dropW_nil]
  constructor
  · intro h
    cases hq : l.reverse.dropWhile ([(0 : UInt8)].contains ·) with
    | nil =>
      have := (dropW_nil _).1 hq
      rw [List.all_reverse] at this
      simpa [hp] using this
    | cons y r =>
      have h1 := dropW_head _ hq
      rw [hq, List.all_reverse, List.all_cons, h1] at h
      cases h
  · intro h
    have : l.reverse.dropWhile ([(0 : UInt8)].contains ·) = [] := (dropW_nil _).2 (by rw [List.all_reverse]; simpa [hp] using h)
    rw [this]; rfl

theorem trm0 (x : ByteArray) : ((trm x ⟨#[0]⟩).toList == ByteArray.empty.toList) = (D x).all (· == 0) := by
  rw [beqB, Bool.eq_iff_iff, decide_eq_true_eq, ← trim_nil]
  constructor
  · intro h
    have : D (trm x ⟨#[0]⟩) = [] := by rw [h]; rfl
    simpa [D, trm] using this
  · intro h
    apply extB
    show D (trm x ⟨#[0]⟩) = []
    simpa [D, trm] using h

theorem kindP {β : Type} {s : ByteArray} {K : Int → Int → Option β} : f15_1 20000 s K = K (kd s).1 (kd s).2 := by
  rw [f15_1, f43_1, kd]
  by_cases h1 : s.size = 64
  · have b0 := byt_r s 0
    have b1 := byt_r s 1
    have e0 : ((s.data.getD 0 0).toNat : Int) = byt s 0 := rfl
    have e1 : ((s.data.getD 1 0).toNat : Int) = byt s 1 := rfl
    rw [show ((s.size : Int) == 64) = true by simp; omega, Bool.not_true, cond_false, if_neg (by omega), ct (by omega), sumP (by omega), show ((s.size : Int).toNat) = 64 by omega, e0, e1, w64 (x := byt s 0) (by omega) (by omega), w64 (x := byt s 1) (by omega) (by omega), ← sm]
    cases h2 : ((sm s).toList == (s.extract 60 64).toList) with
    | false => rfl
    | true =>
      rw [Bool.not_true, cond_false, if_neg (by simp), ct (by omega), ct (by omega)]
      by_cases h3 : byt s 0 < 1
      · rw [ct h3, if_pos (.inl h3)]
      · by_cases h4 : byt s 0 > 8
        · rw [cf h3, ct h4, if_pos (.inr (.inl h4))]
        · by_cases h5 : byt s 1 > 58
          · rw [cf h3, cf h4, ct h5, if_pos (.inr (.inr (.inl h5)))]
          · have hn : (2 + byt s 1).toNat = 2 + (byt s 1).toNat := by omega
            have hx : D (s.extract (2 + byt s 1).toNat 60) = ((D s).drop (2 + (byt s 1).toNat)).take (60 - (2 + (byt s 1).toNat)) := by rw [D_ext, hn]
            have hxs : (s.extract (2 + byt s 1).toNat 60).size ≤ 64 := by rw [D_size, hx]; simp; omega
            rw [cf h3, cf h4, cf h5, w64 (x := 2 + byt s 1) (by omega) (by omega), ct (by omega), f44_1, ct ⟨by omega, by decide, by decide⟩, trm0, hx, ← zer]
            cases h6 : zer s (2 + (byt s 1).toNat) with
            | true => rw [Bool.not_true, cond_false, if_neg (by simp; omega)]
            | false => rw [Bool.not_false, cond_true, if_pos (.inr (.inr (.inr rfl)))]
  · rw [show ((s.size : Int) == 64) = false by simp; omega, Bool.not_false, cond_true, if_pos h1]

theorem zerL {β : Type} {s : ByteArray} {K0 K1 : Option β} (hs : s.size = 64) : ∀ (m i k : Nat), i + m = 60 → m < k → f16_1_l8 20000 s K0 K1 k (i : Int) = if zer s i then K1 else K0
  | _, _, 0, _, h => by omega
  | 0, i, k + 1, hi, _ => by rw [f16_1_l8, cf (by omega), zer, show 60 - i = 0 by omega]; simp
  | m + 1, i, k + 1, hi, hk => by
    have hl : i < (D s).length := by rw [← D_size]; omega
    have hg : s.data.getD i 0 = (D s)[i] := by
      have h2 : i < s.data.size := by have := hl; simpa [D] using this
      simp only [Array.getD_eq_getD_getElem?, Array.getElem?_eq_getElem h2, Option.getD_some, D, Array.getElem_toList]
    rw [f16_1_l8, ct (by omega), ct (by omega), show ((i : Int)).toNat = i from rfl, hg, w64 (by omega) (by omega), zer, List.drop_eq_getElem_cons hl, show 60 - i = (60 - (i + 1)) + 1 by omega, List.take_succ_cons, List.all_cons, ← zer]
    have ih := zerL (K0 := K0) (K1 := K1) hs m (i + 1) k (by omega) (by omega)
    push_cast at ih
    by_cases h0 : (D s)[i] = 0
    · rw [h0, show (((0 : UInt8).toNat : Int) != 0) = false from rfl, cond_false, ih]; simp
    · have : (((D s)[i].toNat : Int) != 0) = true := by
        simp only [bne_iff_ne, ne_eq]
        intro h
        exact h0 (UInt8.toNat_inj.1 (by simpa using h))
      rw [this, cond_true, beq_eq_false_iff_ne.2 h0]; simp

theorem kindR {β : Type} {s : ByteArray} {K : Int → Int → Option β} : f16_1 20000 s K = K (kd s).1 (kd s).2 := by
  rw [f16_1, f45_1, kd]
  by_cases h1 : s.size = 64
  · have b0 := byt_r s 0
    have b1 := byt_r s 1
    have e0 : ((s.data.getD 0 0).toNat : Int) = byt s 0 := rfl
    have e1 : ((s.data.getD 1 0).toNat : Int) = byt s 1 := rfl
    have hc := crc_r (toInts (s.extract 0 60))
    have hl : (toInts (s.extract 0 60)).length ≤ 60 := by
      rw [toInts_D, D_ext]; simp; omega
    rw [show ((s.size : Int) == 64) = true by simp; omega, Bool.not_true, cond_false, if_neg (by omega), ct (by omega), ct (by omega), crcR (by omega), wu64 (by omega) (by omega), text4, show ((s.size : Int).toNat) = 64 by omega, e0, e1, w64 (x := byt s 0) (by omega) (by omega), w64 (x := byt s 1) (by omega) (by omega), ← sm]
    cases h2 : ((sm s).toList == (s.extract 60 64).toList) with
    | false => rfl
    | true =>
      rw [Bool.not_true, cond_false, if_neg (by simp), ct (by omega)]
      by_cases h3 : byt s 0 < 1
      · rw [ct h3, if_pos (.inl h3)]
      · by_cases h4 : byt s 0 > 8
        · rw [cf h3, ct (by omega), ct h4, if_pos (.inr (.inl h4))]
        · by_cases h5 : byt s 1 > 58
          · rw [cf h3, ct (by omega), cf h4, ct (by omega), ct h5, if_pos (.inr (.inr (.inl h5)))]
          · rw [cf h3, ct (by omega), cf h4, ct (by omega), cf h5, ct (by omega), w64 (x := 2 + byt s 1) (by omega) (by omega), ct (by omega), show (2 + byt s 1) = ((2 + (byt s 1).toNat : Nat) : Int) by omega, zerL h1 (60 - (2 + (byt s 1).toNat)) (2 + (byt s 1).toNat) 20000 (by omega) (by omega)]
            cases h6 : zer s (2 + (byt s 1).toNat) with
            | true => rw [if_pos rfl, if_neg (by simp; omega)]
            | false => rw [if_neg (by simp), if_pos (.inr (.inr (.inr rfl)))]
  · rw [show ((s.size : Int) == 64) = false by simp; omega, Bool.not_false, cond_true, if_pos h1]

theorem kd_size {s : ByteArray} (h : (kd s).2 = 0) : s.size = 64 ∧ byt s 1 ≤ 58 ∧ zer s (2 + (byt s 1).toNat) = true ∧ (kd s).1 = byt s 0 ∧ 1 ≤ byt s 0 ∧ byt s 0 ≤ 8 ∧ ((sm s).toList == (s.extract 60 64).toList) = true := by
  unfold kd at h ⊢
  split at h
  · cases h
  · rename_i h1
    split at h
    · cases h
    · rename_i h2
      split at h
      · cases h
      · rename_i h3
        rw [if_neg h1, if_neg h2, if_neg h3]
        refine ⟨by omega, by omega, ?_, rfl, by omega, by omega, by simpa using h2⟩
        cases hz : zer s (2 + (byt s 1).toNat) with
        | true => rfl
        | false => exact (h3 (.inr (.inr (.inr hz)))).elim

def opn (k : Int) (s : ByteArray) : ByteArray × Int := if (kd s).2 ≠ 0 then (ByteArray.empty, (kd s).2) else if (kd s).1 ≠ k then (ByteArray.empty, 22) else (s.extract 2 (2 + (byt s 1).toNat), 0)

theorem openP {β : Type} {k : Int} {s : ByteArray} {K : ByteArray → Int → Option β} : f13_1 20000 k s K = K (opn k s).1 (opn k s).2 := by
  rw [f13_1, kindP, opn]
  have e1 : ((s.data.getD 1 0).toNat : Int) = byt s 1 := rfl
  have b1 := byt_r s 1
  by_cases h1 : (kd s).2 = 0
  · obtain ⟨q1, q2, _⟩ := kd_size h1
    rw [h1, show ((0 : Int) != 0) = false from rfl, cond_false, if_neg (by simp), e1, w64 (x := byt s 1) (by omega) (by omega), w64 (x := 2 + byt s 1) (by omega) (by omega)]
    by_cases h2 : (kd s).1 = k
    · rw [h2, show (k != k) = false by simp, cond_false, if_neg (by simp), ct (by omega), ct (by omega), show (2 + byt s 1).toNat = 2 + (byt s 1).toNat by omega]
    · rw [show ((kd s).1 != k) = true by simp [h2], cond_true, if_pos h2]
  · rw [show ((kd s).2 != 0) = true by simp [h1], cond_true, if_pos h1]

theorem openR {β : Type} {k : Int} {s : ByteArray} {K : ByteArray → Int → Option β} : f14_1 20000 k s K = K (opn k s).1 (opn k s).2 := by
  rw [f14_1, kindR, opn]
  have e1 : ((s.data.getD 1 0).toNat : Int) = byt s 1 := rfl
  have b1 := byt_r s 1
  by_cases h1 : (kd s).2 = 0
  · obtain ⟨q1, q2, _⟩ := kd_size h1
    rw [h1, show ((0 : Int) != 0) = false from rfl, cond_false, if_neg (by simp), e1, w64 (x := byt s 1) (by omega) (by omega), w64 (x := 2 + byt s 1) (by omega) (by omega)]
    by_cases h2 : (kd s).1 = k
    · rw [h2, show (k != k) = false by simp, cond_false, if_neg (by simp), ct (by omega), ct (by omega), show (2 + byt s 1).toNat = 2 + (byt s 1).toNat by omega]
    · rw [show ((kd s).1 != k) = true by simp [h2], cond_true, if_pos h2]
  · rw [show ((kd s).2 != 0) = true by simp [h1], cond_true, if_pos h1]

end Go.Proofs.YtillbabmlfjegaaDoor.X
end

section
/- Records: what is made is opened again, and the other way round. -/
namespace Go.Proofs.YtillbabmlfjegaaDoor.X
open Go Go.Proofs.YtillbabmlfjegaaDoor.Ev
set_option linter.unusedSectionVars false
variable [FZ]
set_option linter.unusedVariables false
set_option linter.unusedSimpArgs false

theorem mkB_D (k : Int) (b : ByteArray) : D (mkB k b) = UInt8.ofNat k.toNat :: UInt8.ofNat b.size :: (D b ++ (List.replicate (58 - b.size) 0 ++ D (ofInts (b4 (crc (toInts (front k b))))))) := by
  rw [mkB, D_app, front_D]; simp

theorem b4_size (n : Int) : (ofInts (b4 n)).size = 4 := by rw [D_size, D_ofInts]; rfl

theorem mkB_size {k : Int} {b : ByteArray} (h : b.size ≤ 58) : (mkB k b).size = 64 := by
  have hf := front_size (k := k) h
  have hc := b4_size (crc (toInts (front k b)))
  rw [D_size] at hf hc
  rw [D_size, mkB, D_app, List.length_append, hf, hc]

theorem mkB_front {k : Int} {b : ByteArray} (h : b.size ≤ 58) : (mkB k b).extract 0 60 = front k b := by
  have hf := front_size (k := k) h
  rw [D_size] at hf
  apply extB
  rw [D_ext, mkB, D_app, List.drop_zero, List.take_append_of_le_length (by omega), List.take_of_length_le (by omega)]

theorem mkB_sum {k : Int} {b : ByteArray} (h : b.size ≤ 58) : (mkB k b).extract 60 64 = sm (mkB k b) := by
  have hf := front_size (k := k) h
  have hc := b4_size (crc (toInts (front k b)))
  rw [D_size] at hf hc
  rw [sm, mkB_front h]
  apply extB
  rw [D_ext, mkB, D_app, List.drop_append_of_le_length (by omega), List.drop_eq_nil_of_le (by omega), List.nil_append, List.take_of_length_le (by omega)]

theorem getD_D (s : ByteArray) (i : Nat) : s.data.getD i 0 = (D s).getD i 0 := by simp [D]

theorem mkB_b0 {k : Int} {b : ByteArray} (h1 : 1 ≤ k) (h2 : k ≤ 8) : byt (mkB k b) 0 = k := by
  rw [byt, getD_D, mkB_D]
  show ((UInt8.ofNat k.toNat).toNat : Int) = k
  rw [UInt8.toNat_ofNat']; omega

theorem mkB_b1 {k : Int} {b : ByteArray} (h : b.size ≤ 58) : byt (mkB k b) 1 = (b.size : Int) := by
  rw [byt, getD_D, mkB_D]
  show ((UInt8.ofNat b.size).toNat : Int) = b.size
  rw [UInt8.toNat_ofNat']; omega

theorem mkB_drop {k : Int} {b : ByteArray} : (D (mkB k b)).drop (2 + b.size) = List.replicate (58 - b.size) 0 ++ D (ofInts (b4 (crc (toInts (front k b))))) := by
  have h := D_size b
  rw [mkB_D, show 2 + b.size = b.size + 1 + 1 by omega, List.drop_succ_cons, List.drop_succ_cons, List.drop_append_of_le_length (by omega), List.drop_eq_nil_of_le (by omega), List.nil_append]

theorem mkB_kd {k : Int} {b : ByteArray} (h1 : 1 ≤ k) (h2 : k ≤ 8) (h : b.size ≤ 58) : kd (mkB k b) = (k, 0) := by
  rw [kd, mkB_size h, if_neg (by omega), mkB_sum h, if_neg (by simp), mkB_b0 h1 h2, mkB_b1 h, if_neg]
  rw [show (2 + ((b.size : Nat) : Int).toNat) = 2 + b.size by omega, zer, mkB_drop, List.take_append_of_le_length (by simp; omega), List.take_of_length_le (by simp; omega)]
  simp; omega

theorem mkB_open {k : Int} {b : ByteArray} (h1 : 1 ≤ k) (h2 : k ≤ 8) (h : b.size ≤ 58) : opn k (mkB k b) = (b, 0) := by
  have hs := D_size b
  rw [opn, mkB_kd h1 h2 h, if_neg (by simp), if_neg (by simp), mkB_b1 h, show (2 + ((b.size : Nat) : Int).toNat) = 2 + b.size by omega]
  congr 1
  apply extB
  rw [D_ext, mkB_D, show (2 : Nat) = 1 + 1 from rfl, List.drop_succ_cons, List.drop_succ_cons, List.drop_zero, show 1 + 1 + b.size - (1 + 1) = b.size by omega, List.take_append_of_le_length (by omega), List.take_of_length_le (by omega)]

theorem all0 : ∀ (l : List UInt8), l.all (· == 0) = true → l = List.replicate l.length 0
  | [], _ => rfl
  | x :: r, h => by
    rw [List.all_cons, Bool.and_eq_true, beq_iff_eq] at h
    rw [List.length_cons, List.replicate_succ, ← all0 r h.2, h.1]

theorem opn_mk {k : Int} {s b : ByteArray} (h : opn k s = (b, 0)) : mkR k b = (s, 0) := by
  unfold opn at h
  split at h
  · rename_i h1
    injection h with _ h2
    exact (h1 h2).elim
  · rename_i h1
    split at h
    · injection h with _ h2; cases h2
    · rename_i h2
      injection h with h3 _
      have h1' : (kd s).2 = 0 := Classical.not_not.1 h1
      obtain ⟨q1, q2, q3, q4, q5, q6, q7⟩ := kd_size h1'
      have hk : byt s 0 = k := q4.symm.trans (Classical.not_not.1 h2)
      have hsz : (D s).length = 64 := by rw [← D_size]; exact q1
      have hb1 := byt_r s 1
      have hDb : D b = ((D s).drop 2).take (byt s 1).toNat := by rw [← h3, D_ext]; congr 1; omega
      have hbs : b.size = (byt s 1).toNat := by rw [D_size, hDb]; simp; omega
      have hmem : ∀ i, i < 64 → ∃ x, (D s)[i]? = some x := fun i hi => ⟨_, List.getElem?_eq_getElem (by omega)⟩
      have hf : front k b = s.extract 0 60 := by
        apply extB
        rw [front_D, D_ext, List.drop_zero, hbs, hDb, ← hk, byt, getD_D, byt, getD_D]
        rw [byt, getD_D] at q3 q2 hb1
        generalize hn : (((D s).getD 1 0).toNat : Int) = n at q3 q2 hb1
        match hq : D s, hsz with
        | x :: y :: r, hsz =>
          rw [hq] at hn
          have hx : UInt8.ofNat ((((x :: y :: r).getD 0 0).toNat : Int).toNat) = x := by simp
          have hy : UInt8.ofNat n.toNat = y := by rw [← hn]; simp
          rw [hx, hy]
          rw [zer, hq] at q3
          have hz := all0 _ q3
          rw [show 2 + n.toNat = n.toNat + 1 + 1 by omega, List.drop_succ_cons, List.drop_succ_cons] at hz
          simp only [List.length_cons] at hsz
          have hlen : (List.take (60 - (n.toNat + 1 + 1)) (List.drop n.toNat r)).length = 58 - n.toNat := by simp; omega
          rw [hlen] at hz
          rw [← hz, show (2 : Nat) = 1 + 1 from rfl, List.drop_succ_cons, List.drop_succ_cons, List.drop_zero, show 60 - 0 = 58 + 1 + 1 from rfl, List.take_succ_cons, List.take_succ_cons, show 60 - (n.toNat + 1 + 1) = 58 - n.toNat by omega]
          congr 2
          have := List.take_append_drop n.toNat (r.take 58)
          rw [List.take_take, List.drop_take, Nat.min_eq_left (by omega)] at this
          exact this
      rw [mkR, if_neg (by omega), if_neg (by omega)]
      congr 1
      have q8 : sm s = s.extract 60 64 := by
        rw [beqB] at q7; exact of_decide_eq_true q7
      rw [mkB, hf, ← sm, q8]
      apply extB
      rw [D_app, D_ext, D_ext, List.drop_zero, show 64 - 60 = 4 from rfl, List.take_of_length_le (l := (D s).drop 60) (by simp; omega)]
      exact List.take_append_drop 60 (D s)

end Go.Proofs.YtillbabmlfjegaaDoor.X
end

section
/- Records: one byte that is another one is told by the sum. -/
namespace Go.Proofs.YtillbabmlfjegaaDoor.X
open Go Go.Proofs.YtillbabmlfjegaaDoor.Ev
set_option linter.unusedSectionVars false
variable [FZ]
set_option linter.unusedVariables false
set_option linter.unusedSimpArgs false

def tbl : List Nat := [0, 4067132163, 3778769143, 324072436, 3348797215, 904991772, 648144872, 3570033899, 2329499855, 2024987596, 1809983544, 2575936315, 1296289744, 3207089363, 2893594407, 1578318884, 274646895, 3795141740, 4049975192, 51262619, 3619967088, 632279923, 922689671, 3298075524, 2592579488, 1760304291, 2075979607, 2312596564, 1562183871, 2943781820, 3156637768, 1313733451, 549293790, 3537243613, 3246849577, 871202090, 3878099393, 357341890, 102525238, 4101499445, 2858735121, 1477399826, 1264559846, 3107202533, 1845379342, 2677391885, 2361733625, 2125378298, 820201905, 3263744690, 3520608582, 598981189, 4151959214, 85089709, 373468761, 3827903834, 3124367742, 1213305469, 1526817161, 2842354314, 2107672161, 2412447074, 2627466902, 1861252501, 1098587580, 3004210879, 2688576843, 1378610760, 2262928035, 1955203488, 1742404180, 2511436119, 3416409459, 969524848, 714683780, 3639785095, 205050476, 4266873199, 3976438427, 526918040, 1361435347, 2739821008, 2954799652, 1114974503, 2529119692, 1691668175, 2005155131, 2247081528, 3690758684, 697762079, 986182379, 3366744552, 476452099, 3993867776, 4250756596, 255256311, 1640403810, 2477592673, 2164122517, 1922457750, 2791048317, 1412925310, 1197962378, 3037525897, 3944729517, 427051182, 170179418, 4165941337, 746937522, 3740196785, 3451792453, 1070968646, 1905808397, 2213795598, 2426610938, 1657317369, 3053634322, 1147748369, 1463399397, 2773627110, 4215344322, 153784257, 444234805, 3893493558, 1021025245, 3467647198, 3722505002, 797665321, 2197175160, 1889384571, 1674398607, 2443626636, 1164749927, 3070701412, 2757221520, 1446797203, 137323447, 4198817972, 3910406976, 461344835, 3484808360, 1037989803, 781091935, 3705997148, 2460548119, 1623424788, 1939049696, 2180517859, 1429367560, 2807687179, 3020495871, 1180866812, 410100952, 3927582683, 4182430767, 186734380, 3756733383, 763408580, 1053836080, 3434856499, 2722870694, 1344288421, 1131464017, 2971354706, 1708204729, 2545590714, 2229949006, 1988219213, 680717673, 3673779818, 3383336350, 1002577565, 4010310262, 493091189, 238226049, 4233660802, 2987750089, 1082061258, 1395524158, 2705686845, 1972364758, 2279892693, 2494862625, 1725896226, 952904198, 3399985413, 3656866545, 731699698, 4283874585, 222117402, 510512622, 3959836397, 3280807620, 837199303, 582374963, 3504198960, 68661723, 4135334616, 3844915500, 390545967, 1230274059, 3141532936, 2825850620, 1510247935, 2395924756, 2091215383, 1878366691, 2644384480, 3553878443, 565732008, 854102364, 3229815391, 340358836, 3861050807, 4117890627, 119113024, 1493875044, 2875275879, 3090270611, 1247431312, 2660249211, 1828433272, 2141937292, 2378227087, 3811616794, 291187481, 34330861, 4032846830, 615137029, 3603020806, 3314634738, 939183345, 1776939221, 2609017814, 2295496738, 2058945313, 2926798794, 1545135305, 1330124605, 3173225534, 4084100981, 17165430, 307568514, 3762199681, 888469610, 3332340585, 3587147933, 665062302, 2042050490, 2346497209, 2559330125, 1793573966, 3190661285, 1279665062, 1595330642, 2910671697]
def inv : List Nat := [0, 241, 226, 19, 196, 53, 38, 215, 136, 121, 106, 155, 76, 189, 174, 95, 16, 225, 242, 3, 212, 37, 54, 199, 152, 105, 122, 139, 92, 173, 190, 79, 32, 209, 194, 51, 228, 21, 6, 247, 168, 89, 74, 187, 108, 157, 142, 127, 48, 193, 210, 35, 244, 5, 22, 231, 184, 73, 90, 171, 124, 141, 158, 111, 177, 64, 83, 162, 117, 132, 151, 102, 57, 200, 219, 42, 253, 12, 31, 238, 161, 80, 67, 178, 101, 148, 135, 118, 41, 216, 203, 58, 237, 28, 15, 254, 145, 96, 115, 130, 85, 164, 183, 70, 25, 232, 251, 10, 221, 44, 63, 206, 129, 112, 99, 146, 69, 180, 167, 86, 9, 248, 235, 26, 205, 60, 47, 222, 98, 147, 128, 113, 166, 87, 68, 181, 234, 27, 8, 249, 46, 223, 204, 61, 114, 131, 144, 97, 182, 71, 84, 165, 250, 11, 24, 233, 62, 207, 220, 45, 66, 179, 160, 81, 134, 119, 100, 149, 202, 59, 40, 217, 14, 255, 236, 29, 82, 163, 176, 65, 150, 103, 116, 133, 218, 43, 56, 201, 30, 239, 252, 13, 211, 34, 49, 192, 23, 230, 245, 4, 91, 170, 185, 72, 159, 110, 125, 140, 195, 50, 33, 208, 7, 246, 229, 20, 75, 186, 169, 88, 143, 126, 109, 156, 243, 2, 17, 224, 55, 198, 213, 36, 123, 138, 153, 104, 191, 78, 93, 172, 227, 18, 1, 240, 39, 214, 197, 52, 107, 154, 137, 120, 175, 94, 77, 188]

set_option maxRecDepth 100000 in
theorem tb_eq : tb = tbl.map (fun (n : Nat) => (n : Int)) := by kernel_rfl
set_option maxRecDepth 100000 in
theorem tbl_ok : ((List.range 256).all fun i => decide (tbl.getD i 0 < 4294967296) && inv.getD (tbl.getD i 0 / 16777216) 0 == i) = true := by kernel_rfl
theorem tbl_at {i : Nat} (h : i < 256) : tbl.getD i 0 < 4294967296 ∧ inv.getD (tbl.getD i 0 / 16777216) 0 = i := by
  have := List.all_eq_true.1 tbl_ok i (List.mem_range.2 h)
  rw [Bool.and_eq_true, decide_eq_true_eq, beq_iff_eq] at this
  exact this
theorem tb_at (i : Nat) : tb.getD i 0 = ((tbl.getD i 0 : Nat) : Int) := by
  rw [tb_eq]; simp [List.getD_eq_getElem?_getD]
  cases tbl[i]? <;> rfl

theorem xor32 {A B : Nat} (hA : A < 2 ^ 32) (hB : B < 2 ^ 32) : ixor .u32 (A : Int) (B : Int) = ((A ^^^ B : Nat) : Int) := by
  have h : (BitVec.ofInt 32 (A : Int) ^^^ BitVec.ofInt 32 (B : Int)).toNat = A ^^^ B := by
    simp [BitVec.toNat_xor, BitVec.ofInt_natCast, BitVec.toNat_ofNat, Nat.mod_eq_of_lt hA, Nat.mod_eq_of_lt hB]
  have hl := Nat.xor_lt_two_pow hA hB
  show IntKind.u32.wrap ((BitVec.ofInt 32 (A : Int) ^^^ BitVec.ofInt 32 (B : Int)).toNat : Int) = _
  rw [h, wu32 (by omega) (by omega)]
theorem xor8 {A B : Nat} (hA : A < 2 ^ 8) (hB : B < 2 ^ 8) : ixor .u8 (A : Int) (B : Int) = ((A ^^^ B : Nat) : Int) := by
  have h : (BitVec.ofInt 8 (A : Int) ^^^ BitVec.ofInt 8 (B : Int)).toNat = A ^^^ B := by
    simp [BitVec.toNat_xor, BitVec.ofInt_natCast, BitVec.toNat_ofNat, Nat.mod_eq_of_lt hA, Nat.mod_eq_of_lt hB]
  have hl := Nat.xor_lt_two_pow hA hB
  show IntKind.u8.wrap ((BitVec.ofInt 8 (A : Int) ^^^ BitVec.ofInt 8 (B : Int)).toNat : Int) = _
  rw [h, wu8 (by omega) (by omega)]

def stN (n c : Nat) : Nat := (n / 256) ^^^ tbl.getD ((n % 256) ^^^ c) 0

theorem ix_lt {n c : Nat} (hc : c < 256) : (n % 256) ^^^ c < 256 := Nat.xor_lt_two_pow (n := 8) (Nat.mod_lt _ (by decide)) hc

theorem stN_lt {n c : Nat} (hn : n < 4294967296) (hc : c < 256) : stN n c < 4294967296 :=
  Nat.xor_lt_two_pow (n := 32) (by omega) (tbl_at (ix_lt hc)).1

theorem st_nat {n c : Nat} (hn : n < 4294967296) (hc : c < 256) : ixor .u32 (ishr .u32 (n : Int) 8) (tb.getD (ixor .u8 (IntKind.u8.wrap (n : Int)) (c : Int)).toNat 0) = ((stN n c : Nat) : Int) := by
  have e : (2 : Int) ^ (min (8 : Int).toNat IntKind.u32.bits) = 256 := by decide
  have e1 : ishr .u32 (n : Int) 8 = ((n / 256 : Nat) : Int) := by rw [ishr, e, Int.fdiv_eq_ediv_of_nonneg _ (by omega)]; rfl
  have e2 : IntKind.u8.wrap (n : Int) = ((n % 256 : Nat) : Int) := by rw [wu8m]; rfl
  rw [e1, e2, xor8 (Nat.mod_lt _ (by decide)) hc, Int.toNat_natCast, tb_at, xor32 (by omega) (tbl_at (ix_lt hc)).1, stN]

theorem xor_inj {a b c : Nat} (h : a ^^^ c = b ^^^ c) : a = b := by
  have : (a ^^^ c) ^^^ c = (b ^^^ c) ^^^ c := by rw [h]
  rwa [Nat.xor_assoc, Nat.xor_assoc, Nat.xor_self, Nat.xor_zero, Nat.xor_zero] at this
theorem xor_inj' {a b c : Nat} (h : c ^^^ a = c ^^^ b) : a = b := xor_inj (c := c) (by rw [Nat.xor_comm a, Nat.xor_comm b]; exact h)

theorem st_top {n c : Nat} (hn : n < 4294967296) : stN n c / 16777216 = tbl.getD ((n % 256) ^^^ c) 0 / 16777216 := by
  have h := Nat.shiftRight_xor_distrib (a := n / 256) (b := tbl.getD ((n % 256) ^^^ c) 0) (i := 24)
  rw [Nat.shiftRight_eq_div_pow, Nat.shiftRight_eq_div_pow, Nat.shiftRight_eq_div_pow, show n / 256 / 2 ^ 24 = 0 by omega, Nat.zero_xor] at h
  exact h

theorem st_ix {n m c d : Nat} (hn : n < 4294967296) (hm : m < 4294967296) (hc : c < 256) (hd : d < 256) (h : stN n c = stN m d) : (n % 256) ^^^ c = (m % 256) ^^^ d := by
  have h1 := st_top (n := n) (c := c) hn
  rw [h, st_top hm] at h1
  have h2 := (tbl_at (ix_lt (n := n) hc)).2
  rw [← h1, (tbl_at (ix_lt (n := m) hd)).2] at h2
  exact h2.symm

theorem st_inj {n m c : Nat} (hn : n < 4294967296) (hm : m < 4294967296) (hc : c < 256) (h : stN n c = stN m c) : n = m := by
  have h1 := st_ix hn hm hc hc h
  have h2 := xor_inj h1
  rw [stN, stN, h1] at h
  have h3 := xor_inj h
  omega

theorem st_injc {n c d : Nat} (hn : n < 4294967296) (hc : c < 256) (hd : d < 256) (h : stN n c = stN n d) : c = d := xor_inj' (st_ix hn hn hc hd h)

def crcN (n : Nat) (l : List Nat) : Nat := l.foldl stN n
theorem crcN_lt : ∀ (l : List Nat) {n : Nat}, n < 4294967296 → (∀ c ∈ l, c < 256) → crcN n l < 4294967296
  | [], n, hn, _ => hn
  | c :: r, n, hn, hl => crcN_lt r (stN_lt hn (hl c (by simp))) fun d hd => hl d (by simp [hd])
theorem crcN_inj : ∀ (l : List Nat) {n m : Nat}, n < 4294967296 → m < 4294967296 → (∀ c ∈ l, c < 256) → crcN n l = crcN m l → n = m
  | [], n, m, _, _, _, h => h
  | c :: r, n, m, hn, hm, hl, h => st_inj hn hm (hl c (by simp)) (crcN_inj r (stN_lt hn (hl c (by simp))) (stN_lt hm (hl c (by simp))) (fun d hd => hl d (by simp [hd])) h)
theorem crcN_byte {n x y : Nat} (l1 l2 : List Nat) (hn : n < 4294967296) (h1 : ∀ c ∈ l1, c < 256) (h2 : ∀ c ∈ l2, c < 256) (hx : x < 256) (hy : y < 256) (h : crcN n (l1 ++ x :: l2) = crcN n (l1 ++ y :: l2)) : x = y := by
  have hk := crcN_lt l1 hn h1
  unfold crcN at h hk
  rw [List.foldl_append, List.foldl_append, List.foldl_cons, List.foldl_cons] at h
  exact st_injc hk hx hy (crcN_inj l2 (stN_lt hk hx) (stN_lt hk hy) h2 h)

theorem crcS_N : ∀ (l : List Nat) {n : Nat}, n < 4294967296 → (∀ c ∈ l, c < 256) → crcS (n : Int) (l.map fun (c : Nat) => (c : Int)) = ((crcN n l : Nat) : Int)
  | [], n, _, _ => rfl
  | c :: r, n, hn, hl => by
    rw [List.map_cons, crcS, st_nat hn (hl c (by simp)), crcS_N r (stN_lt hn (hl c (by simp))) fun d hd => hl d (by simp [hd])]; rfl

def bN (s : List UInt8) : List Nat := s.map UInt8.toNat
theorem bN_lt (s : List UInt8) : ∀ c ∈ bN s, c < 256 := by
  intro c hc
  obtain ⟨x, _, rfl⟩ := List.mem_map.1 hc
  exact x.toNat_lt

theorem crc_N (s : ByteArray) : crc (toInts s) = ((4294967295 ^^^ crcN 4294967295 (bN (D s)) : Nat) : Int) := by
  have h0 : ixor .u32 4294967295 0 = ((4294967295 : Nat) : Int) := by decide
  have e : toInts s = (bN (D s)).map fun (c : Nat) => (c : Int) := by rw [toInts_D, bN, List.map_map]; rfl
  rw [crc, h0, e, crcS_N _ (by decide) (bN_lt _)]
  exact xor32 (by decide) (crcN_lt _ (by decide) (bN_lt _))

theorem b4_inj {v w : Int} (hv : 0 ≤ v ∧ v < 4294967296) (hw : 0 ≤ w ∧ w < 4294967296) (h : ofInts (b4 v) = ofInts (b4 w)) : v = w := by
  have h := congrArg D h
  rw [D_ofInts, D_ofInts] at h
  have e : ∀ (x : Int) (i : Nat), 0 ≤ x → ishr .u64 x ((i : Nat) : Int) = x / 2 ^ (min i 64) := fun x i hx => by
    rw [ishr, Int.fdiv_eq_ediv_of_nonneg _ (by exact Int.le_of_lt (Int.pow_pos (by decide)))]; rfl
  have k : ∀ {x y : Int}, UInt8.ofNat (IntKind.u8.wrap x).toNat = UInt8.ofNat (IntKind.u8.wrap y).toNat → x % 256 = y % 256 := by
    intro x y h
    have h := congrArg UInt8.toNat h
    rw [UInt8.toNat_ofNat', UInt8.toNat_ofNat', wu8m, wu8m] at h
    omega
  simp only [b4, List.map_cons, List.map_nil, List.cons.injEq, and_true] at h
  obtain ⟨h1, h2, h3, h4⟩ := h
  have h1 := k h1; have h2 := k h2; have h3 := k h3; have h4 := k h4
  have q : ∀ x : Int, 0 ≤ x → ishr .u64 x 24 = x / 16777216 ∧ ishr .u64 x 16 = x / 65536 ∧ ishr .u64 x 8 = x / 256 ∧ ishr .u64 x 0 = x := fun x hx =>
    ⟨e x 24 hx, e x 16 hx, e x 8 hx, shr0 hx⟩
  rw [(q v hv.1).1, (q w hw.1).1] at h1
  rw [(q v hv.1).2.1, (q w hw.1).2.1] at h2
  rw [(q v hv.1).2.2.1, (q w hw.1).2.2.1] at h3
  rw [(q v hv.1).2.2.2, (q w hw.1).2.2.2] at h4
  omega

/-- The sum tells one byte from another one. -/
theorem sum_byte {s t : ByteArray} {l1 l2 : List UInt8} {x y : UInt8} (hs : D s = l1 ++ x :: l2) (ht : D t = l1 ++ y :: l2) (h : ofInts (b4 (crc (toInts s))) = ofInts (b4 (crc (toInts t)))) : x = y := by
  have h1 := b4_inj (crc_r _) (crc_r _) h
  rw [crc_N, crc_N] at h1
  have h2 := xor_inj' (Int.ofNat.inj h1)
  rw [hs, ht, bN, bN, List.map_append, List.map_append, List.map_cons, List.map_cons] at h2
  exact UInt8.toNat_inj.1 (crcN_byte _ _ (by decide) (bN_lt _) (bN_lt _) x.toNat_lt y.toNat_lt h2)

end Go.Proofs.YtillbabmlfjegaaDoor.X
end

section
/- The law: one byte that is another one. -/
namespace Go.Proofs.YtillbabmlfjegaaDoor.X
open Go Go.Proofs.YtillbabmlfjegaaDoor.Ev
set_option linter.unusedSectionVars false
variable [FZ]
set_option linter.unusedVariables false
set_option linter.unusedSimpArgs false

theorem known08 {β : Type} {K : Bool → Option β} : f12_1 20000 K = K true := by kernel_rfl

theorem byte_kd {s t : ByteArray} {A B : List UInt8} {x v : UInt8} (hs : D s = A ++ x :: B) (ht : D t = A ++ v :: B) (hsz : s.size = 64) (hsum : s.extract 60 64 = sm s) (hv : x ≠ v) : (kd t).2 = 9 := by
  have hl : (A ++ x :: B).length = 64 := by rw [← hs, ← D_size]; exact hsz
  rw [List.length_append, List.length_cons] at hl
  have hts : t.size = 64 := by rw [D_size, ht, List.length_append, List.length_cons]; exact hl
  have hne : sm t ≠ t.extract 60 64 := by
    intro h
    by_cases h60 : A.length < 60
    · obtain ⟨j, hj⟩ : ∃ j, 60 - A.length = j + 1 := ⟨59 - A.length, by omega⟩
      have e1 : t.extract 60 64 = s.extract 60 64 := by
        apply extB
        rw [D_ext, D_ext, ht, hs, List.drop_append, List.drop_append, hj, List.drop_succ_cons, List.drop_succ_cons]
      refine hv (sum_byte (s := s.extract 0 60) (t := t.extract 0 60) (l1 := A) (l2 := B.take j) (x := x) (y := v) ?_ ?_ ?_)
      · rw [D_ext, hs, List.drop_zero, List.take_append, List.take_of_length_le (by omega), show 60 - 0 - A.length = j + 1 by omega, List.take_succ_cons]
      · rw [D_ext, ht, List.drop_zero, List.take_append, List.take_of_length_le (by omega), show 60 - 0 - A.length = j + 1 by omega, List.take_succ_cons]
      · exact ((h.trans e1).trans hsum).symm
    · have e1 : t.extract 0 60 = s.extract 0 60 := by
        apply extB
        rw [D_ext, D_ext, ht, hs, List.drop_zero, List.drop_zero, List.take_append_of_le_length (by omega), List.take_append_of_le_length (by omega)]
      have e2 : sm t = sm s := by rw [sm, sm, e1]
      have e3 : D (t.extract 60 64) = D (s.extract 60 64) := by rw [← h, e2, hsum]
      have e4 : D (t.extract 0 60) = D (s.extract 0 60) := by rw [e1]
      rw [D_ext, D_ext, List.take_of_length_le (by rw [List.length_drop, ← D_size]; omega), List.take_of_length_le (by rw [List.length_drop, ← D_size]; omega)] at e3
      rw [D_ext, D_ext, List.drop_zero, List.drop_zero] at e4
      have e5 : D t = D s := by rw [← List.take_append_drop 60 (D t), ← List.take_append_drop 60 (D s), e3, e4]
      rw [hs, ht] at e5
      have := List.append_cancel_left e5
      injection this with h1 _
      exact hv h1.symm
  rw [kd, if_neg (by omega), if_pos]
  rw [beqB]; exact decide_eq_false hne

theorem law_true {β : Type} (k : Int) (b : ByteArray) (at_ tb_ : Int) {q : Prop} (_ : q) (hb : b.size ≤ maxLen) (hat : (Lit.int .i64 at_).wf = true) (hto : (Lit.int .u8 tb_).wf = true) (r : β) : ∃ F, f5_1 F k b at_ tb_ (fun b => cond b (some r) none) = some r := by
  refine ⟨20000, ?_⟩
  have ha := i64_of_wf hat
  have hv := u8_of_wf hto
  rw [f5_1, makeP hb, known08]
  by_cases h1 : k < 1 ∨ k > 8
  · rw [mkR, if_pos h1]; rfl
  · by_cases h2 : b.size > 58
    · rw [mkR, if_neg h1, if_pos h2]; rfl
    · have hs := mkB_size (k := k) (b := b) (by omega)
      have hsum := mkB_sum (k := k) (b := b) (by omega)
      rw [mkR, if_neg h1, if_neg h2]
      dsimp only
      rw [show ((0 : Int) != 0) = false from rfl, cond_false]
      generalize mkB k b = s at hs hsum
      have hl : (D s).length = 64 := by rw [← D_size]; exact hs
      by_cases q1 : at_ < 0
      · rw [ct q1]; rfl
      · by_cases q2 : at_ ≥ (s.size : Int)
        · rw [cf q1, ct q2]; rfl
        · obtain ⟨i, rfl⟩ : ∃ i : Nat, at_ = (i : Int) := ⟨at_.toNat, by omega⟩
          have hi : i < 64 := by omega
          have hx : s.data.getD ((i : Int)).toNat 0 = (D s)[i]'(by omega) := by
            rw [getD_D, show ((i : Int)).toNat = i from rfl, List.getD_eq_getElem?_getD, List.getElem?_eq_getElem (by omega)]; rfl
          rw [cf q1, cf q2, ct (by omega), hx]
          by_cases q3 : (((D s)[i]'(by omega)).toNat : Int) = tb_
          · rw [beq_iff_eq.2 q3, cond_true]; rfl
          · have h1s : (ofInts [tb_]).size = 1 := by rw [D_size, D_ofInts]; rfl
            have ea : D (s.extract 0 ((i : Int)).toNat) = (D s).take i := by rw [D_ext, List.drop_zero]; rfl
            have eb : D (s.extract ((i : Int) + 1).toNat 64) = (D s).drop (i + 1) := by
              rw [D_ext, show ((i : Int) + 1).toNat = i + 1 by omega, List.take_of_length_le (by simp; omega)]
            have es1 : (s.extract 0 ((i : Int)).toNat).size = i := by rw [D_size, ea]; simp; omega
            have es2 : (s.extract ((i : Int) + 1).toNat 64).size ≤ 64 := by rw [D_size, eb]; simp; omega
            rw [beq_eq_false_iff_ne.2 q3, cond_false, ct (by omega), w64 (x := (i : Int) + 1) (by omega) (by omega), ct (by omega), show ((s.size : Int)).toNat = 64 by omega, ct (by omega), ct (by
              have : (s.extract 0 ((i : Int)).toNat ++ ofInts [tb_]).size = i + 1 := by rw [D_size, D_app, List.length_append, ← D_size, ← D_size, es1, h1s]
              omega), kindP]
            have hk : (kd (s.extract 0 ((i : Int)).toNat ++ ofInts [tb_] ++ s.extract ((i : Int) + 1).toNat 64)).2 = 9 := by
              refine byte_kd (s := s) (A := (D s).take i) (B := (D s).drop (i + 1)) (x := (D s)[i]'(by omega)) (v := UInt8.ofNat tb_.toNat) ?_ ?_ hs hsum ?_
              · rw [← List.drop_eq_getElem_cons (by omega), List.take_append_drop]
              · rw [D_app, D_app, ea, eb, D_ofInts]; simp
              · intro h
                apply q3
                rw [h, UInt8.toNat_ofNat']; omega
            rw [hk, show ((9 : Int) == 9) = true from rfl, cond_true]; rfl

end Go.Proofs.YtillbabmlfjegaaDoor.X
end
